/- term.Same, by its contract. -/
import Derived.Test.YtfcialleekfjmaaTmSame
import Derived.Deep.LoopGhost
import Derived.Test.YtfcialleekfjmaaSteps
import Derived.BigRegion
namespace Go.Proofs.Ytfcialleekfjmaa.K
open Go.RowKit
set_option linter.unusedVariables false
set_option linter.unusedSimpArgs false

/-- The stack of pairs, laid flat. -/
def zl (L : List (Tm × Tm)) : List Tm := L.flatMap fun p => [p.1, p.2]
theorem zl_snoc (L : List (Tm × Tm)) (x y : Tm) : zl (L ++ [(x, y)]) = zl L ++ [x, y] := by simp [zl]
theorem zl_len (L : List (Tm × Tm)) : (zl L).length = 2 * L.length := by
  induction L with
  | nil => rfl
  | cons p L ih => show (p.1 :: p.2 :: zl L).length = _; simp [ih]; omega
def sumA (L : List (Tm × Tm)) : Nat := nodesL (L.map (·.1))
theorem sumA_snoc (L : List (Tm × Tm)) (x y : Tm) : sumA (L ++ [(x, y)]) = sumA L + nodes x := by
  unfold sumA; rw [List.map_append, nodesL_append]; show _ + nodesL [x] = _; rw [nodesL_cons, nodesL_nil]; omega
theorem sumA_len (L : List (Tm × Tm)) : L.length ≤ sumA L := by
  have := nodesL_len (L.map (·.1)); rw [List.length_map] at this; exact this
def allSame (L : List (Tm × Tm)) : Prop := ∀ p, p ∈ L → p.1 = p.2
theorem allSame_snoc (L : List (Tm × Tm)) (p : Tm × Tm) (h : p.1 = p.2) : allSame (L ++ [p]) ↔ allSame L := by
  constructor
  · intro g q hq; exact g q (List.mem_append_left _ hq)
  · intro g q hq
    rcases List.mem_append.1 hq with hq | hq
    · exact g q hq
    · rw [List.mem_singleton.1 hq]; exact h
/-- The stack holds just these pairs. -/
def PRow (B : Nat) (wr : World) (v : Value) (L : List (Tm × Tm)) : Prop := ∃ vs, TsVs wr (· < B) (zl L) vs ∧ wr.ownsRow B 96 8 v L.length (flat vs)
theorem allSame_zip {L : List (Tm × Tm)} {k n : Int} {s : ByteArray} {lx ly : List Tm} (h : lx.length = ly.length) : allSame (L ++ [(.mk k n s lx, .mk k n s ly)]) ↔ allSame (L ++ lx.zip ly) := by
  have e : allSame (lx.zip ly) ↔ lx = ly := by
    clear L k n s
    induction lx generalizing ly with
    | nil => cases ly with
      | nil => simp [allSame]
      | cons b ly => simp at h
    | cons a lx ih => cases ly with
      | nil => simp at h
      | cons b ly =>
        have := ih (ly := ly) (by simpa using h)
        simp only [List.zip_cons_cons, allSame, List.mem_cons, List.cons.injEq] at *
        constructor
        · intro g
          exact ⟨g (a, b) (.inl rfl), this.1 fun p hp => g p (.inr hp)⟩
        · rintro ⟨rfl, rfl⟩ p (rfl | hp)
          · rfl
          · exact this.2 rfl p hp
  have ap : ∀ M N : List (Tm × Tm), allSame (M ++ N) ↔ allSame M ∧ allSame N := fun M N => by
    unfold allSame
    simp only [List.mem_append]
    exact ⟨fun g => ⟨fun p hp => g p (.inl hp), fun p hp => g p (.inr hp)⟩, fun g p hp => hp.elim (g.1 p) (g.2 p)⟩
  rw [ap, ap, e]
  simp [allSame]
theorem info8 : (Try.prog.info? 96).map (fun i => (i.zero, i.size, i.bytes)) = some (some (.agg #[.int .i64 0, .int .i64 0, .string .empty, .slice none 0 0, .int .i64 0, .int .i64 0, .string .empty, .slice none 0 0]), 8, 112) := by kernel_rfl
theorem cells8_new (w : World) (x0 x1 x2 x3 x4 x5 x6 x7 : Value) (t : TypeId) : ∀ j u, [x0, x1, x2, x3, x4, x5, x6, x7][j]? = some u → (w.alloc (.cells #[x0, x1, x2, x3, x4, x5, x6, x7] t)).cell? ((⟨w.heap.size, 0, none⟩ : Addr).add j) = some u := by
  intro j u hj
  rw [add_plain', (Blk.new w t #[x0, x1, x2, x3, x4, x5, x6, x7]).cell]
  simpa using hj
theorem one8 (a b : Int) (s : ByteArray) (A : Option Addr) (n c : Nat) (a' b' : Int) (s' : ByteArray) (A' : Option Addr) (n' c' : Nat) : ∀ u ∈ [Value.int .i64 a, .int .i64 b, .string s, .slice A n c, .int .i64 a', .int .i64 b', .string s', .slice A' n' c'], u.oneCell' = true := by
  intro u hu
  simp only [List.mem_cons, List.not_mem_nil, or_false] at hu
  rcases hu with rfl | rfl | rfl | rfl | rfl | rfl | rfl | rfl <;> rfl
theorem Blk.eight {w : World} {g : Nat} {t : TypeId} {x0 x1 x2 x3 x4 x5 x6 x7 : Value} (h : Blk w g t #[x0, x1, x2, x3, x4, x5, x6, x7]) :
    w.cell? ⟨g, 0, none⟩ = some x0 ∧ w.cell? ⟨g, 1, none⟩ = some x1 ∧ w.cell? ⟨g, 2, none⟩ = some x2 ∧ w.cell? ⟨g, 3, none⟩ = some x3 ∧ w.cell? ⟨g, 4, none⟩ = some x4 ∧ w.cell? ⟨g, 5, none⟩ = some x5 ∧ w.cell? ⟨g, 6, none⟩ = some x6 ∧ w.cell? ⟨g, 7, none⟩ = some x7 :=
  ⟨by rw [h.cell]; rfl, by rw [h.cell]; rfl, by rw [h.cell]; rfl, by rw [h.cell]; rfl, by rw [h.cell]; rfl, by rw [h.cell]; rfl, by rw [h.cell]; rfl, by rw [h.cell]; rfl⟩
/-- Within a round: k pairs of parts stand on the stack. -/
structure InS (B Bx : Nat) (wb : World) (L' : List (Tm × Tm)) (lx ly : List Tm) (k : Nat) (v : Value) (ws : World) : Prop where
  row : PRow B ws v (L' ++ (lx.zip ly).take k)
  own : ∀ r, v.ownBlock = some r → r ≠ Bx
  keep : Below B wb ws
  box : ∀ cs, Blk wb Bx 96 cs → Blk ws Bx 96 cs
theorem ins_push {B Bx : Nat} {wb wr w4 : World} {L' : List (Tm × Tm)} {lx ly : List Tm} {k : Nat} {v v4 : Value} {o : Obj} {u u' : Tm} {A1 A2 : Option Addr} {c1 c2 : Nat} (hI : InS B Bx wb L' lx ly k v wr)
    (hzk : ((lx.zip ly).take k).length = k) (hu : lx[k]? = some u) (hu' : ly[k]? = some u') (hx : TAt wr (· < B) u (tv u A1 c1)) (hy : TAt wr (· < B) u' (tv u' A2 c2)) (hB : B ≤ wr.heap.size) (hBx : Bx < wr.heap.size) {us : List Value} (hus : TsVs wr (· < B) (zl (L' ++ (lx.zip ly).take k)) us)
    (hown : w4.ownsRow B 96 8 v4 (L'.length + k + 1) (flat us ++ [.int .i64 u.k, .int .i64 u.n, .string u.s, .slice A1 u.l.length c1, .int .i64 u'.k, .int .i64 u'.n, .string u'.s, .slice A2 u'.l.length c2]))
    (hv : ∀ r, v.ownBlock = some r → B ≤ r) (hg : (wr.alloc o).drew.grownBy w4 v.ownBlock) (hat : v4.ownBlock = v.ownBlock ∨ v4.ownBlock = some (wr.alloc o).drew.heap.size) : InS B Bx wb L' lx ly (k + 1) v4 w4 := by
  have hs : (wr.alloc o).drew.heap.size = wr.heap.size + 1 := World.size_alloc wr o
  have hbw : Below B wr w4 := by
    have h1 : Below B wr (wr.alloc o).drew := btodrew ((Below.refl B wr).alloc hB o)
    exact h1.grown hg (by omega) hv
  have hzip : (lx.zip ly).take (k + 1) = (lx.zip ly).take k ++ [(u, u')] := by
    rw [List.take_add_one, List.getElem?_zip_eq_some (z := (u, u')) |>.2 ⟨hu, hu'⟩]; rfl
  refine ⟨⟨us ++ [tv u A1 c1, tv u' A2 c2], ?_, ?_⟩, fun r hr => ?_, hI.keep.trans hbw, fun cs hcs => ?_⟩
  · rw [hzip, ← List.append_assoc, zl_snoc]
    have h0 : TsVs wr (· < B) [u, u'] [tv u A1 c1, tv u' A2 c2] := (TsVs.one hx).append (TsVs.one hy)
    exact (hus.append h0).keep fun p hp => hbw.cell hp
  · rw [hzip, ← List.append_assoc, List.length_append, List.length_append, hzk, flat_append]
    exact hown
  · rcases hat with h | h
    · exact hI.own r (by rw [← h]; exact hr)
    · rw [h, hs] at hr; injection hr with hr; omega
  · have h1 := (hI.box cs hcs).alloc o
    have h2 : Blk (wr.alloc o).drew Bx 96 cs := h1
    exact (hg.block Bx (by omega) (fun e => hI.own Bx e.symm rfl)).trans h2
def SmRel (w : World) (ans : Prop) (gk : Nat) (v : Value) (wr : World) : Prop :=
  ∃ L : List (Tm × Tm), (ans ↔ allSame L) ∧ sumA L ≤ gk ∧ sumA L ≤ 1048576 ∧ PRow w.heap.size wr v L ∧ Below w.heap.size w wr
set_option maxRecDepth 100000 in
set_option maxHeartbeats 4000000 in
theorem same_any (a b : Tm) (v v' : Value) (w : World) (h : TA w a v) (h' : TA w b v') (hn : nodes a ≤ 1048576) :
    Calls Try.prog 30 #[v, v'] w fun e w' => e = .returned (.bool (eqT a b)) ∧ Below w.heap.size w w' := by
  have HT := Lib.hid h; have HT' := Lib.hid h'
  obtain ⟨k0, n0, s, l, A, c, rfl, rfl, ok, hl⟩ := h.open_
  obtain ⟨k', n', s', l', A', c', rfl, rfl, ok', hl'⟩ := h'.open_
  clear h h' ok ok' hl hl'
  have HN := Lib.hid hn
  clear hn
  obtain ⟨ans, hans⟩ : ∃ ans : Prop, (Tm.mk k0 n0 s l = Tm.mk k' n' s' l') = ans := ⟨_, rfl⟩
  have HA := Lib.hid hans
  clear hans
  go_enter Try.func30, Try.ntmps30
  go_wp2
  go_step3
  go_wp2
  go_step3
  go_wp2
  go_loopg [5] 1048576 (fun gk v wr => SmRel w ans gk v wr)
  case atStart =>
    refine ⟨[(.mk k0 n0 s l, .mk k' n' s' l')], by simp [allSame, ← HA.out], ?_, ?_, ⟨[.agg #[.int .i64 k0, .int .i64 n0, .string s, .slice A l.length c], .agg #[.int .i64 k', .int .i64 n', .string s', .slice A' l'.length c']], ?_, ?_⟩, ?_⟩
    · have := sumA_snoc [] (.mk k0 n0 s l) (.mk k' n' s' l'); have := HN.out; simp [sumA, nodesL_nil] at *; omega
    · have := sumA_snoc [] (.mk k0 n0 s l) (.mk k' n' s' l'); have := HN.out; simp [sumA, nodesL_nil] at *; omega
    · have h1 : TsVs w (· < w.heap.size) _ _ := (TsVs.one HT.out).append (TsVs.one HT'.out)
      exact h1.keep fun p hp => (ballocs (ballocs (ballocs (Below.refl _ _) _) _) _).cell hp
    · have hq := World.ownsRow_lit (base := w.heap.size) (e := 96) (size := 8) ((w.alloc (.cells #[.int .i64 k0, .int .i64 n0, .string s, .slice A l.length c] 24)).alloc (.cells #[.int .i64 k', .int .i64 n', .string s', .slice A' l'.length c'] 24)) #[.int .i64 k0, .int .i64 n0, .string s, .slice A l.length c, .int .i64 k', .int .i64 n', .string s', .slice A' l'.length c'] 1 (by simp; omega) (by simp [maxLen]) rfl
      rw [World.size_alloc, World.size_alloc] at hq
      exact hq
    · exact ballocs (ballocs (ballocs (Below.refl _ _) _) _) _
  case round =>
    obtain ⟨L, hans, hgk, hn1, hP, hb⟩ := hrel
    obtain ⟨vs, hvs, hrow⟩ := hP
    obtain ⟨A3, c3, rfl, hc3, hm3⟩ := ownsRow_form hrow
    have HB := Lib.hid hb
    rcases List.eq_nil_or_concat L with rfl | ⟨L', ⟨x, y⟩, rfl⟩
    · have HE := Lib.hid (show eqT (.mk k0 n0 s l) (.mk k' n' s' l') = true from eqT_iff.2 (by rw [HA.out, hans]; simp [allSame]))
      clear hvs hrow hb hans HT HT' HA
      go_wp2_with fail
      try rw [Exit.noGoto_ret]
      go_ret
      exact ⟨ret1_b HE.out.symm, HB.out⟩
    · rw [List.concat_eq_append] at hrow hvs hc3 hans hgk hn1 ⊢
      have hlen : (L' ++ [(x, y)]).length = L'.length + 1 := by simp
      rw [hlen] at hrow hc3 ⊢
      rw [zl_snoc] at hvs
      rw [sumA_snoc] at hgk hn1
      obtain ⟨g, cap, he, hBg, hgl⟩ := hrow.form (by omega)
      injection he with e1 e2 e3
      subst e1 e3
      clear e2
      have hzl := zl_len L'
      obtain ⟨vx, hvx, htx, hcx⟩ := hvs.at_ (i := 2 * L'.length) (u := x) (by rw [List.getElem?_append_right (by omega), hzl]; simp)
      obtain ⟨vy, hvy, hty, hcy⟩ := hvs.at_ (i := 2 * L'.length + 1) (u := y) (by rw [List.getElem?_append_right (by omega), hzl]; simp)
      have hcell := hrow.cells (g := g) rfl
      obtain ⟨kx, nx, sx, lx⟩ := x
      obtain ⟨ky, ny, sy, ly⟩ := y
      obtain ⟨Ax, cx, rfl, okx, hlx⟩ := htx.inv
      obtain ⟨Ay, cy, rfl, oky, hly⟩ := hty.inv
      simp only [Tm.l_mk] at hlx hly
      have q0 := hcell _ _ ((hcx 0 (by omega)).trans rfl)
      have q1 := hcell _ _ ((hcx 1 (by omega)).trans rfl)
      have q2 := hcell _ _ ((hcx 2 (by omega)).trans rfl)
      have q3 := hcell _ _ ((hcx 3 (by omega)).trans rfl)
      have q4 := hcell _ _ ((hcy 0 (by omega)).trans rfl)
      have q5 := hcell _ _ ((hcy 1 (by omega)).trans rfl)
      have q6 := hcell _ _ ((hcy 2 (by omega)).trans rfl)
      have q7 := hcell _ _ ((hcy 3 (by omega)).trans rfl)
      rw [add_plain'] at q0 q1 q2 q3 q4 q5 q6 q7
      rw [show 0 + (2 * L'.length * 4 + 0) = L'.length * 8 from by omega] at q0
      rw [show 0 + (2 * L'.length * 4 + 1) = L'.length * 8 + 1 from by omega] at q1
      rw [show 0 + (2 * L'.length * 4 + 2) = L'.length * 8 + 2 from by omega] at q2
      rw [show 0 + (2 * L'.length * 4 + 3) = L'.length * 8 + 3 from by omega] at q3
      rw [show 0 + ((2 * L'.length + 1) * 4 + 0) = L'.length * 8 + 4 from by omega] at q4
      rw [show 0 + ((2 * L'.length + 1) * 4 + 1) = L'.length * 8 + 5 from by omega] at q5
      rw [show 0 + ((2 * L'.length + 1) * 4 + 2) = L'.length * 8 + 6 from by omega] at q6
      rw [show 0 + ((2 * L'.length + 1) * 4 + 3) = L'.length * 8 + 7 from by omega] at q7
      simp only [Tm.k_mk, Tm.n_mk, Tm.s_mk, Tm.l_mk] at q0 q1 q2 q3 q4 q5 q6 q7
      have hsl := sumA_len L'
      rw [nodes_mk] at hgk hn1
      have hxl := nodesL_len lx
      have hly0 : ly.length ≤ 9223372036854775807 := by have := Nat.le_trans oky.hl oky.hc; unfold maxLen at this; exact this
      have hL1 : L'.length ≤ 1048576 := by omega
      have hlx1 : lx.length ≤ 1048576 := by omega
      have hF : ∀ b, b < w.heap.size → b < wr.heap.size := fun b h => Nat.lt_of_lt_of_le h hb.size
      have htk := hvs.take (2 * L'.length)
      rw [List.take_append_of_le_length (by omega), List.take_of_length_le (by omega)] at htk
      have hfl := hvs.flat_take (2 * L'.length)
      rw [show 2 * L'.length * 4 = L'.length * 8 from by omega] at hfl
      have hr2 := ownsRow_less hrow
      rw [← hfl] at hr2
      obtain ⟨wb, hwb⟩ : ∃ wb, wr.alloc (.cells #[.int .i64 kx, .int .i64 nx, .string sx, .slice Ax lx.length cx, .int .i64 ky, .int .i64 ny, .string sy, .slice Ay ly.length cy] 96) = wb := ⟨_, rfl⟩
      have hbb : Below wr.heap.size wr wb := by rw [← hwb]; exact (Below.refl _ _).alloc (Nat.le_refl _) _
      have HX := Lib.hid (show Blk wb wr.heap.size 96 #[.int .i64 kx, .int .i64 nx, .string sx, .slice Ax lx.length cx, .int .i64 ky, .int .i64 ny, .string sy, .slice Ay ly.length cy] from by rw [← hwb]; exact Blk.new _ _ _)
      have HP := Lib.hid (show PRow w.heap.size wb (.slice (some ⟨g, 0, none⟩) L'.length c3) L' from ⟨vs.take (2 * L'.length), htk.keep fun p hp => hbb.cell (hF _ hp), by rw [← hwb]; exact hr2.alloc _⟩)
      have HKx := Lib.hid (hlx.under hbb hF)
      have HKy := Lib.hid (hly.under hbb hF)
      have HBB := Lib.hid hbb
      have HWB := Lib.hid hwb
      have hns : (Tm.mk kx nx sx lx ≠ .mk ky ny sy ly) → (eqT (.mk k0 n0 s l) (.mk k' n' s' l') = false) := fun hne => eqT_no.2 (fun e => hne (by
        have e1 : ans := by rw [← HA.out]; exact e
        exact hans.1 e1 (.mk kx nx sx lx, .mk ky ny sy ly) (by simp)))
      have HNS := Lib.hid hns
      have HANS := Lib.hid hans
      clear hvs hrow hb hwb hbb htk hfl hr2 hvx hvy htx hty hcx hcy hcell hlx hly hF hns hans okx oky hlen hzl HT HT' HN
      by_cases hk : kx = ky
      · by_cases hn : nx = ny
        · by_cases hs : sx = sy
          · by_cases hlen : lx.length = ly.length
            · subst hk hn hs
              rw [← hlen] at HX HWB q7
              rcases Nat.eq_zero_or_pos lx.length with hz | hz
              · have e1 := List.eq_nil_of_length_eq_zero hz
                have e2 := List.eq_nil_of_length_eq_zero (hlen.symm.trans hz)
                subst e1 e2
                clear HNS HA
                go_wp2_with fail
                go_roundg (sumA L')
                case rel =>
                  refine ⟨L', HANS.out.trans (allSame_snoc _ _ rfl), Nat.le_refl _, by omega, ?_, ?_⟩
                  · have := HP.out; rw [← HWB.out] at this; exact this
                  · have := bnext HB.out HBB.out; rw [← HWB.out] at this; exact this
                case measure => omega
              · have HLEN := Lib.hid hlen
                have HGL := Lib.hid hgl
                have hq0 : ((lx.length : Int) == 0) = false := beq_eq_false_iff_ne.2 (by omega)
                clear HNS HA hlen hgl
                go_wp2_with fail
                rw [HWB.out]
                obtain ⟨Bx, hBx⟩ : ∃ Bx, wr.heap.size = Bx := ⟨_, rfl⟩
                rw [hBx] at HX HGL ⊢
                have hwB : w.heap.size ≤ Bx := by have := HB.out.size; omega
                have HBw := Lib.hid (show Below w.heap.size w wb from bnext HB.out HBB.out)
                have hgB : g ≠ Bx := by have := HGL.out; omega
                obtain ⟨i8, hi, hi0, hi1, hi2⟩ := info_parts info8
                clear HB HBB HWB HGL hBx q0 q1 q2 q3 q4 q5 q6 q7 hc3
                go_loopw [5, 71] (fun v i ws => ∃ k : Nat, k ≤ lx.length ∧ i = .int .i64 (k : Int) ∧ InS w.heap.size Bx wb L' lx ly k v ws) (fun _ i _ => lx.length - (intOf i).toNat)
                case atStart => exact ⟨0, Nat.zero_le _, rfl, by rw [List.take_zero, List.append_nil]; exact HP.out, fun r hr => by injection hr with hr; rw [← hr]; exact hgB, Below.refl _ _, fun _ h => h⟩
                case round =>
                  obtain ⟨k, hk, rfl, hI⟩ := hrel
                  have HI := Lib.hid hI
                  obtain ⟨⟨us, hus, hrow⟩, hown, hkeep, hbox⟩ := hI
                  obtain ⟨p0, p1, p2, p3, p4, p5, p6, p7⟩ := (hbox _ HX.out).eight
                  by_cases hlt : k < lx.length
                  · have hzk : ((lx.zip ly).take k).length = k := by rw [List.length_take, List.length_zip, ← HLEN.out]; omega
                    have hnL : (L' ++ (lx.zip ly).take k).length = L'.length + k := by rw [List.length_append, hzk]
                    rw [hnL] at hrow
                    obtain ⟨A3, c3, rfl, hc3, hm3⟩ := ownsRow_form hrow
                    obtain ⟨u, hu⟩ : ∃ u, lx[k]? = some u := ⟨_, List.getElem?_eq_getElem hlt⟩
                    obtain ⟨u', hu'⟩ : ∃ u, ly[k]? = some u := ⟨_, List.getElem?_eq_getElem (by have := HLEN.out; omega)⟩
                    obtain ⟨b, o, A1, c1, rfl, hb1, d0, d1, d2, d3, hta, _⟩ := (HKx.out.under hkeep (fun _ h => h)).at_ hu
                    obtain ⟨b', o', A2, c2, rfl, hb2, e0, e1, e2, e3, hta', _⟩ := (HKy.out.under hkeep (fun _ h => h)).at_ hu'
                    have HTx := Lib.hid (TAt.of hta ‹TsAt wr _ A1 u.l›)
                    have HTy := Lib.hid (TAt.of hta' ‹TsAt wr _ A2 u'.l›)
                    clear hta hta'
                    go_wp2_with fail
                    have HR3 := Lib.hid hrow
                    have HRD := Lib.hid (show Reads (wr.alloc (.cells #[.int .i64 u.k, .int .i64 u.n, .string u.s, .slice A1 u.l.length c1, .int .i64 u'.k, .int .i64 u'.n, .string u'.s, .slice A2 u'.l.length c2] 96)).drew (wr.heap.size + 1) 8 (some ⟨wr.heap.size, 0, none⟩) 1 [.int .i64 u.k, .int .i64 u.n, .string u.s, .slice A1 u.l.length c1, .int .i64 u'.k, .int .i64 u'.n, .string u'.s, .slice A2 u'.l.length c2] from ⟨rfl, fun _ => ⟨_, rfl, Nat.lt_succ_self _, cells8_new wr _ _ _ _ _ _ _ _ _⟩⟩)
                    have HKE := Lib.hid hkeep
                    have HUS := Lib.hid hus
                    have HBX := Lib.hid hbox
                    have b3 : w.heap.size ≤ (wr.alloc (.cells #[.int .i64 u.k, .int .i64 u.n, .string u.s, .slice A1 u.l.length c1, .int .i64 u'.k, .int .i64 u'.n, .string u'.s, .slice A2 u'.l.length c2] 96)).drew.heap.size := by have := HBw.out.size; have := hkeep.size; simp; omega
                    clear hrow hkeep hus hbox
                    obtain ⟨v4, w4, hrun, hown4, hg4, hat4⟩ := run_append_any (P := Try.prog) _ w.heap.size 97 97 96 i8 _ 8 112 Try.underlying97 hi hi0 hi1 hi2 rfl (by omega) (.slice A3 (L'.length + k) c3) (L'.length + k) _ ((HR3.out.alloc _).drew) _ (some ⟨wr.heap.size, 0, none⟩) 1 1 _ HRD.out (one8 _ _ _ _ _ _ _ _ _ _ _ _) (by unfold maxLen; omega) (by omega) b3
                    obtain ⟨A4, c4, rfl, _, _⟩ := ownsRow_form hown4
                    have HIN := Lib.hid (ins_push HI.out hzk hu hu' HTx.out HTy.out (by have := HBw.out.size; have := HKE.out.size; omega) ((HBX.out _ HX.out).lt) HUS.out hown4 (fun r hr => (HR3.out.lt r hr).1) hg4 hat4)
                    clear hown4 hg4 hat4
                    have HRUN := Lib.hid hrun
                    clear hrun
                    go_region_law (refine step_append_run (.tmp 74) (.tmp 88) 97 _ _ _ HRUN.out rfl rfl (by simp [Act.eval, Act.put]) (by simp [Act.eval, Act.put]) ?_)
                    all_goals
                      go_wp2_with fail
                      go_roundw
                      case rel => exact ⟨k + 1, hlt, by go_num, HIN.out⟩
                      case measure => simp [intOf]; omega
                  · obtain rfl : k = lx.length := by omega
                    have hzz : (lx.zip ly).take lx.length = lx.zip ly := List.take_of_length_le (by rw [List.length_zip]; omega)
                    rw [hzz] at hus hrow
                    have HQ := Lib.hid (show PRow w.heap.size wr u5 (L' ++ lx.zip ly) from ⟨us, hus, hrow⟩)
                    have hsum : sumA (L' ++ lx.zip ly) = sumA L' + nodesL lx := by
                      unfold sumA
                      rw [List.map_append, nodesL_append, List.map_fst_zip (by have := HLEN.out; omega)]
                    have HKE := Lib.hid hkeep
                    clear hus hrow hkeep
                    go_wp2_with fail
                    go_roundg (sumA L' + nodesL lx)
                    case rel => exact ⟨L' ++ lx.zip ly, HANS.out.trans (allSame_zip HLEN.out), by omega, by omega, HQ.out, HBw.out.trans HKE.out⟩
                    case measure => omega
            · subst hk hn hs
              have HE := Lib.hid (HNS.out fun hh => hlen (by injection hh with _ _ _ e; rw [e]))
              clear HANS HA
              go_wp2_with fail
              try rw [Exit.noGoto_ret]
              go_ret
              exact ⟨ret1_b HE.out.symm, by rw [HWB.out]; exact bnext HB.out HBB.out⟩
          · subst hk hn
            have HE := Lib.hid (HNS.out fun hh => hs (by injection hh))
            have hq := tstr_ne hs
            clear HANS HA
            go_wp2_with fail
            try rw [Exit.noGoto_ret]
            go_ret
            exact ⟨ret1_b HE.out.symm, by rw [HWB.out]; exact bnext HB.out HBB.out⟩
        · subst hk
          have HE := Lib.hid (HNS.out fun hh => hn (by injection hh))
          have hq : (nx == ny) = false := by simpa using hn
          clear HANS HA
          go_wp2_with fail
          try rw [Exit.noGoto_ret]
          go_ret
          exact ⟨ret1_b HE.out.symm, by rw [HWB.out]; exact bnext HB.out HBB.out⟩
      · have HE := Lib.hid (HNS.out fun hh => hk (by injection hh))
        have hq : (kx == ky) = false := by simpa using hk
        clear HANS HA
        go_wp2_with fail
        try rw [Exit.noGoto_ret]
        go_ret
        exact ⟨ret1_b HE.out.symm, by rw [HWB.out]; exact bnext HB.out HBB.out⟩
end Go.Proofs.Ytfcialleekfjmaa.K
