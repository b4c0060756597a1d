/- slices.Index and slices.Delete at items, linhash's Remove, each by its contract. -/
import Derived.Test.YtjipncpplpfobaaLbAdd
import Derived.Test.YtjipncpplpfobaaLbAt
import Derived.ArgAppend
import Derived.Lib.SliceRun
import Derived.Deep.RegionLaw
import Derived.BigRegion
namespace Go.Proofs.Ytjipncpplpfobaa.Lb
open Go.RowKit K Hs
set_option linter.unusedVariables false
set_option linter.unusedSimpArgs false

theorem bdN {B : Nat} {w w' : World} {d : Nat} (h : Below B w w') : Below B w (w'.drewN d) := ⟨h.os, h.tape, h.output, h.size, h.block⟩
theorem bdNN {B : Nat} {w w' : World} {d e : Nat} (h : Below B w w') : Below B w ((w'.drewN d).drewN e) := ⟨h.os, h.tape, h.output, h.size, h.block⟩
/-- Where an item stands first (the length: nowhere). -/
def ix (l : List It) (x : It) : Nat := l.findIdx (· == x)
theorem ix_le (l : List It) (x : It) : ix l x ≤ l.length := List.findIdx_le_length
theorem ix_here {l : List It} {x : It} {k : Nat} (hk : l[k]? = some x) (h : k ≤ ix l x) : ix l x = k := by
  unfold ix at *
  rcases Nat.lt_or_ge k (l.findIdx (· == x)) with h1 | h1
  · have h2 := List.not_of_lt_findIdx h1
    obtain ⟨hl, e⟩ := List.getElem?_eq_some_iff.1 hk
    rw [e] at h2
    simp at h2
  · omega
theorem ix_more {l : List It} {x y : It} {k : Nat} (hk : l[k]? = some y) (hne : y ≠ x) (h : k ≤ ix l x) : k + 1 ≤ ix l x := by
  unfold ix at *
  rcases Nat.lt_or_ge k (l.findIdx (· == x)) with h1 | h1
  · exact h1
  · exfalso
    obtain ⟨hl, e⟩ := List.getElem?_eq_some_iff.1 hk
    have he : l.findIdx (· == x) = k := by omega
    have h2 := List.findIdx_getElem (p := (· == x)) (xs := l) (w := by omega)
    simp only [he, e, beq_iff_eq] at h2
    exact hne h2
/-- The number that Index tells. -/
def ixV (l : List It) (x : It) : Int := if ix l x < l.length then (ix l x : Int) else -1
set_option maxRecDepth 100000 in
set_option maxHeartbeats 4000000 in
theorem index_any (A : Option Addr) (c B : Nat) (l : List It) (x : It) (w : World) (hr : RdI w B A l) (hB : B ≤ w.heap.size) (hn : l.length ≤ 1099511627776) (hx : 0 ≤ x.1 ∧ x.1 ≤ 4294967295) :
    Calls Try.prog 40 #[.slice A l.length c, .agg #[.int .u32 x.1, .int .i64 x.2]] w fun e w' => e = .returned (.int .i64 (ixV l x)) ∧ Below w.heap.size w w' := by
  obtain ⟨x, y⟩ := x
  simp only at hx ⊢
  obtain ⟨W1, hW1⟩ : ∃ W1, w.alloc (.cells #[.int .u32 x, .int .i64 y] 54) = W1 := ⟨_, rfl⟩
  have hb1 : Below w.heap.size w W1 := by rw [← hW1]; exact (Below.refl _ _).alloc (Nat.le_refl _) _
  have hB1 : Blk W1 w.heap.size 54 #[.int .u32 x, .int .i64 y] := by rw [← hW1]; exact Blk.new _ _ _
  have hr1 : RdI W1 B A l := hr.below ⟨hb1.os, hb1.tape, hb1.output, by have := hb1.size; omega, fun k hk => hb1.block k (by omega)⟩
  have p0 : W1.cell? ⟨w.heap.size, 0, none⟩ = some (.int .u32 x) := by rw [hB1.cell]; rfl
  have p1 : W1.cell? ⟨w.heap.size, 1, none⟩ = some (.int .i64 y) := by rw [hB1.cell]; rfl
  have HW := Lib.hid hW1
  have HB1 := Lib.hid hb1
  have hll : l.length < 9223372036854775807 := by omega
  clear hr hW1 hb1 hB1 hB
  go_enter Try.func40, Try.ntmps40
  go_wp2_with fail
  rw [HW.out]
  go_loopw [8] (fun i wr => ∃ k : Nat, k ≤ l.length ∧ i = .int .i64 (k : Int) ∧ k ≤ ix l (x, y) ∧ ∃ n, wr = W1.drewN n) (fun i _ => l.length - (intOf i).toNat)
  case atStart => exact ⟨0, Nat.zero_le _, rfl, Nat.zero_le _, 0, rfl⟩
  case round =>
    obtain ⟨k, hk, rfl, hix, n, rfl⟩ := hrel
    by_cases hlt : k < l.length
    · obtain ⟨⟨x2, y2⟩, hx2⟩ : ∃ x, l[k]? = some x := ⟨_, List.getElem?_eq_getElem hlt⟩
      obtain ⟨ad, rfl, _, c0, c1⟩ := hr1 k _ hx2
      by_cases hne : (x2, y2) = (x, y)
      · injection hne with h1 h2
        subst h1 h2
        have HE := Lib.hid (show (k : Int) = ixV l (x2, y2) from by unfold ixV; rw [ix_here hx2 hix, if_pos hlt])
        clear hx2 hr1 hix
        go_wp2_with fail
        go_quiet (fail)
        go_wp2_with fail
        go_ret
        exact ⟨ret1_i HE.out, (by first | exact bdN HB1.out | exact bdNN HB1.out)⟩
      · have HX := Lib.hid (ix_more hx2 hne hix)
        by_cases h1 : x = x2
        · subst h1
          have h2 : ¬ y = y2 := fun e => hne (by rw [e])
          have hq1 : (y == y2) = false := by simpa using h2
          have hq2 : decide (y = y2) = false := decide_eq_false h2
          clear hx2 hr1 hix hne
          go_wp2_with fail
          go_quiet (fail)
          go_wp2_with fail
          go_roundw
          case rel => exact ⟨k + 1, by omega, by go_num, HX.out, _, rfl⟩
          case measure => simp [intOf]; omega
        · have hq1 : (x == x2) = false := by simpa using h1
          have hq2 : decide (x = x2) = false := decide_eq_false h1
          clear hx2 hr1 hix hne
          go_wp2_with fail
          go_quiet (fail)
          go_wp2_with fail
          go_roundw
          case rel => exact ⟨k + 1, by omega, by go_num, HX.out, _, rfl⟩
          case measure => simp [intOf]; omega
    · have HE := Lib.hid (show (-1 : Int) = ixV l (x, y) from by unfold ixV; rw [if_neg (by omega)])
      clear hr1
      go_wp2_with fail
      go_ret
      exact ⟨ret1_i HE.out, (by first | exact bdN HB1.out | exact bdNN HB1.out)⟩

/-! ### Delete -/
theorem blk_setCells {g : Nat} {t : TypeId} : ∀ (vs : List Value) (o : Nat) (w : World) (cur : List Value), Blk w g t cur.toArray → o + vs.length ≤ cur.length → Blk (w.setCells g o vs) g t (cur.take o ++ vs ++ cur.drop (o + vs.length)).toArray
  | [], o, w, cur, h, _ => by simpa [World.setCells] using h
  | v :: vs, o, w, cur, h, hl => by
    simp only [List.length_cons] at hl
    have h1 := h.set_ o v
    rw [List.setIfInBounds_toArray] at h1
    have h2 := blk_setCells vs (o + 1) _ (cur.set o v) h1 (by simp; omega)
    simp only [World.setCells]
    have e : (cur.set o v).take (o + 1) ++ vs ++ (cur.set o v).drop (o + 1 + vs.length) = cur.take o ++ (v :: vs) ++ cur.drop (o + (vs.length + 1)) := by
      have ho : o < cur.length := by omega
      rw [List.drop_set_of_lt (by omega), List.take_set, List.take_add_one, List.getElem?_eq_getElem ho]
      simp only [Option.toList_some]
      rw [List.set_append_right _ _ (by simp; omega)]
      have : o - (cur.take o).length = 0 := by simp; omega
      rw [this]
      simp [show o + 1 + vs.length = o + (vs.length + 1) by omega]
    rw [e] at h2
    exact h2
theorem keep_setCells (g : Nat) (vs : List Value) (o : Nat) (w : World) : Keep (fun k => k = g) w (w.setCells g o vs) := by
  induction vs generalizing o w with
  | nil => exact Keep.refl _ _
  | cons v vs ih => exact ((Keep.refl (fun k => k = g) w).setCell (p := ⟨g, o, none⟩) (.inl rfl) v).trans (ih (o + 1) _) (fun i _ h => h)
def zItem : List Value := [.int .u32 0, .int .i64 0]
theorem zeroI (w : World) : (zeroValue 54).run Try.prog w = .ok (.agg #[.int .u32 0, .int .i64 0]) w := by kernel_rfl
theorem clear_one (w : World) (ty : TypeId) (b o c : Nat) (hc : ∀ j, j < 2 → (w.cell? ⟨b, o + j, none⟩).isSome = true) (hf : ∀ j, j < 2 → w.frozen? ⟨b, o + j, none⟩ = false) :
    (Builtin.clear_ #[43] ty #[.slice (some ⟨b, o, none⟩) 1 c]).run Try.prog w = .ok (.tuple #[]) (w.setCells b o zItem) := by
  have hst := run_storeCells_cells (P := Try.prog) b o zItem 0 w (by simpa [zItem] using hc) (by simpa [zItem] using hf) (by intro v hv'; simp [zItem] at hv'; rcases hv' with rfl | rfl <;> rfl)
  simp only [Nat.add_zero] at hst
  have hz : (Builtin.zeroCells (Value.agg #[.int .u32 0, .int .i64 0]).cells 1).toList = zItem := by kernel_rfl
  simp [Builtin.clear_, run_underlying Try.underlying43, zeroI, hz, hst]
set_option maxRecDepth 100000 in
set_option maxHeartbeats 8000000 in
theorem delete_any (A : Option Addr) (c : Nat) (l : List It) (i : Nat) (w : World) (hr : w.ownsRow 0 54 2 (.slice A l.length c) l.length (itL l)) (hi : i < l.length) (hn : l.length ≤ 1099511627776) :
    Calls Try.prog 41 #[.slice A l.length c, .int .i64 (i : Int), .int .i64 ((i : Int) + 1)] w fun e w' =>
      e = .returned (.slice A (l.length - 1) c) ∧ w'.ownsRow 0 54 2 (.slice A (l.eraseIdx i).length c) (l.eraseIdx i).length (itL (l.eraseIdx i)) ∧ Keep (fun k => (Value.slice A l.length c).ownBlock = some k) w w' := by
  have hlen := hr.1
  rcases hr.2 with ⟨h0, h0'⟩ | ⟨g, cap, cur, hv, _, hg, hnc, hcm, hcs, htake⟩
  · omega
  have hA : A = some ⟨g, 0, none⟩ ∧ c = cap := by injection hv with h1 _ h2; exact ⟨h1, h2⟩
  obtain ⟨rfl, rfl⟩ := hA
  obtain ⟨n, hnl⟩ : ∃ n, l.length = n := ⟨_, rfl⟩
  rw [hnl] at hi hn hnc htake ⊢
  have hg0 : Blk w g 54 cur.toList.toArray := by
    rw [Array.toArray_toList]; exact hg
  obtain ⟨cl, hcl⟩ : ∃ cl, cur.toList = cl := ⟨_, rfl⟩
  rw [hcl] at hg0 htake
  have hcll : cl.length = c * 2 := by rw [← hcl]; simpa using hcs
  obtain ⟨news, hnews⟩ : ∃ news, itL (l.drop (i + 1)) = news := ⟨_, rfl⟩
  have hnewsl : news.length = (n - (i + 1)) * 2 := by rw [← hnews, itL_length]; simp [hnl]
  have hnewsd : news = (itL l).drop ((i + 1) * 2) := by rw [← hnews, itL_drop]
  have hcell : ∀ j u, news[j]? = some u → w.cell? ⟨g, (i + 1) * 2 + j, none⟩ = some u := fun j u hj => by
    have hj' : j < news.length := (List.getElem?_eq_some_iff.1 hj).1
    rw [hnewsd, List.getElem?_drop, ← htake, List.getElem?_take, if_pos (by omega)] at hj
    rw [hg0.cell]
    simpa using hj
  obtain ⟨A', hA', hsrc⟩ : ∃ A' : Addr, (if c = i + 1 then some (⟨g, 0, none⟩ : Addr) else some ⟨g, (i + 1) * 2, none⟩) = some A' ∧ ∀ j u, news[j]? = some u → w.drew.cell? (A'.add j) = some u := by
    by_cases h : c = i + 1
    · refine ⟨⟨g, 0, none⟩, by rw [if_pos h], fun j u hj => ?_⟩
      have h0 : news.length = 0 := by rw [hnewsl]; omega
      rw [List.length_eq_zero_iff.1 h0] at hj
      simp at hj
    · refine ⟨⟨g, (i + 1) * 2, none⟩, by rw [if_neg h], fun j u hj => ?_⟩
      rw [show (⟨g, (i + 1) * 2, none⟩ : Addr).add j = ⟨g, (i + 1) * 2 + j, none⟩ from by
        unfold Addr.add
        split
        · rename_i h0; subst h0; rfl
        · simp]
      exact hcell j u hj
  obtain ⟨i0, hi0, hz0, hz1, hz2⟩ := info_parts infoI
  have hW0 : Blk w.drew g 54 cl.toArray := hg0
  have hcs0 : ∀ o, o < c * 2 → (w.drew.cell? ⟨g, o, none⟩).isSome = true := fun o ho => by
    rw [hW0.cell]
    simp [hcll, ho]
  have hone : ∀ u ∈ news, u.oneCell' = true := hnews ▸ itL_one _
  have hrun := fun ty => run_append_room_cells (P := Try.prog) w.drew 43 ty 54 i0 Try.underlying43 hi0 g 0 i c A' (n - (i + 1)) (c - (i + 1)) news (by rw [hz1]; exact hnewsl) hsrc hone (by omega) (fun j hj => by rw [hz1]; exact hcs0 _ (by omega)) (fun j _ => hW0.frozen _)
  rw [hz1] at hrun
  simp only [Nat.zero_add] at hrun
  obtain ⟨W1, hW1⟩ : ∃ W1, w.drew.setCells g (i * 2) news = W1 := ⟨_, rfl⟩
  have hB1 := blk_setCells news (i * 2) w.drew cl hW0 (by omega)
  have hk1 := keep_setCells g news (i * 2) w.drew
  rw [hW1] at hrun hB1 hk1
  obtain ⟨c1, hc1⟩ : ∃ c1, cl.take (i * 2) ++ news ++ cl.drop (i * 2 + news.length) = c1 := ⟨_, rfl⟩
  rw [hc1] at hB1
  have hc1l : c1.length = c * 2 := by rw [← hc1]; simp; omega
  have hclr := fun ty => clear_one W1 ty g ((n - 1) * 2) (c - (n - 1)) (fun j hj => by rw [hB1.cell]; simp [hc1l]; omega) (fun j _ => hB1.frozen _)
  have hB2 := blk_setCells zItem ((n - 1) * 2) W1 c1 hB1 (by simp [zItem]; omega)
  have hk2 := keep_setCells g zItem ((n - 1) * 2) W1
  obtain ⟨W2, hW2⟩ : ∃ W2, W1.setCells g ((n - 1) * 2) zItem = W2 := ⟨_, rfl⟩
  rw [hW2] at hclr hB2 hk2
  have hers : l.eraseIdx i = l.take i ++ l.drop (i + 1) := by rw [List.eraseIdx_eq_take_drop_succ]
  have hel : (l.eraseIdx i).length = n - 1 := by rw [List.length_eraseIdx, if_pos (by omega), hnl]
  have HF := Lib.hid (show W2.ownsRow 0 54 2 (.slice (some ⟨g, 0, none⟩) (n - 1) c) (n - 1) (itL (l.eraseIdx i)) ∧ Keep (fun k => (Value.slice (some ⟨g, 0, none⟩) n c).ownBlock = some k) w W2 from by
    refine ⟨⟨by rw [itL_length, hel], .inr ⟨g, c, _, rfl, Nat.zero_le _, hB2, by omega, hcm, ?_, ?_⟩⟩, ?_⟩
    · simp [zItem, hc1l]; omega
    · simp only [List.toList_toArray, List.append_assoc]
      rw [List.take_append_of_le_length (by simp [hc1l]; omega), List.take_take, Nat.min_self, ← hc1, hers, itL_append, hnews]
      have e1 : (cl.take (i * 2) ++ news).length = (n - 1) * 2 := by simp [hcll, hnewsl]; omega
      rw [List.take_append_of_le_length (by omega), List.take_of_length_le (by omega)]
      congr 1
      rw [← itL_take, ← htake, List.take_take]
      congr 1
      omega
    · have hkk : Keep (fun k => k = g) w W1 := ⟨hk1.os, hk1.tape, hk1.output, hk1.size, hk1.block⟩
      exact (hkk.trans hk2 (fun _ _ h => h)).mono (fun k _ h => by subst h; rfl))
  rw [hel]
  have e3 : (i : Int) + 1 ≤ (n : Int) := by omega
  have e4 : ((i : Int) + 1).toNat = i + 1 := by omega
  have e5 : (0 : Int) ≤ (i : Int) + 1 := by omega
  have b1 : i ≤ i + 1 := by omega
  have b2 : i + 1 ≤ n := by omega
  have b3 : i ≤ c := by omega
  have b4 : n ≤ c := hnc
  have b5 : n - 1 ≤ n := by omega
  have hadd : i + (n - (i + 1)) = n - 1 := by omega
  rw [hadd] at hrun
  have hsub : n - (n - 1) = 1 := by omega
  have hne : ((i : Int) == (i : Int) + 1) = false := by simp; omega
  have hcn : (c = n - 1) = False := by simp; omega
  have HRUN := Lib.hid hrun
  clear hrun hB2 hk2 hk1 hB1 hone hcs0 hW0 hsrc hcell hnewsd hnewsl hnews hcll hcl hg0 hg hcs htake hlen hnl hr hv hcm hW1 hW2 hc1 hc1l hers hel hi0 hz0 hz1 hz2 hadd
  go_enter Try.func41, Try.ntmps41
  go_wp2_with fail
  go_region_law (refine step_append_run (.tmp 22) (.tmp 25) 43 _ _ _ (HRUN.out _) rfl rfl (by simp [Act.eval, Act.put]) (by simp [Act.eval, Act.put]) ?_)
  all_goals
    go_wp2_with fail
    go_ret
    exact ⟨rfl, HF.out⟩

/-! ### Remove -/
/-- An item less: its first place. -/
def remR (l : List It) (x : It) : List It := if ix l x < l.length then l.eraseIdx (ix l x) else l
def hasI (l : List It) (x : It) : Bool := decide (ix l x < l.length)
def remL (L : List (List It)) (n : Nat) (x : It) : List (List It) := L.set n (remR (L.getD n []) x)
theorem remL_len (L : List (List It)) (n : Nat) (x : It) : (remL L n x).length = L.length := by simp [remL]
theorem below_drew {B : Nat} {w w' : World} (h : Below B w w') : Below B w w'.drew := ⟨h.os, h.tape, h.output, h.size, h.block⟩
set_option maxRecDepth 100000 in
set_option maxHeartbeats 8000000 in
theorem remove_any {w : World} {G : Nat → Prop} {g least gr cap : Nat} {cnt : Int} {L : List (List It)} (hB : LB w G g least cnt gr cap L) (h id : Int) (h0 : 0 ≤ h) (h1 : h ≤ 4294967295)
    (m1 : 1 ≤ L.length) (m2 : L.length ≤ 1048576) (c0 : 0 ≤ cnt) (c1 : cnt < 16777216) (hl : ∀ l ∈ L, l.length ≤ 1099511627776) :
    Calls Try.prog 14 #[.pointer (some ⟨g, 0, none⟩), .int .u32 h, .int .i64 id] w fun e w' => e = .returned (.bool (hasI (L.getD (bk h L.length) []) (h, id))) ∧
      LB w' (upG G w w') g least (if hasI (L.getD (bk h L.length) []) (h, id) then cnt - 1 else cnt) gr cap (remL L (bk h L.length) (h, id)) ∧ Keep G w w' := by
  have hlt := bk_lt (h := h) m1 m2
  obtain ⟨q0, q1, q2, f0, f1, f2, g1, g2, n1, n2, hne⟩ := hB.cells
  obtain ⟨m, hm⟩ : ∃ m, L.length = m := ⟨_, rfl⟩
  obtain ⟨n, hn⟩ : ∃ n, bk h L.length = n := ⟨_, rfl⟩
  rw [hn] at hlt ⊢
  obtain ⟨l, hll⟩ : ∃ l, L[n]? = some l := ⟨_, List.getElem?_eq_getElem hlt⟩
  have hgd : L.getD n [] = l := by rw [List.getD_eq_getElem?_getD, hll]; rfl
  have hrl : remL L n (h, id) = L.set n (remR l (h, id)) := by unfold remL; rw [hgd]
  rw [hgd, hrl]
  obtain ⟨A, c, hcell, hfz, hown, hblk, hA⟩ := hB.2.2.2.spot hll
  have hlen : l.length ≤ 1099511627776 := hl l (List.mem_of_getElem? hll)
  have hng : (Value.slice A l.length c).ownBlock ≠ some g := hB.row_ne hown
  have hngr : (Value.slice A l.length c).ownBlock ≠ some gr := fun e => (hblk _ e).2.2 rfl
  have HN := Lib.hid (none_no g gr m cap w (by rw [← hm]; exact q2))
  have HOF := Lib.hid (of_any g gr m cap h w (by rw [← hm]; exact q2) h0 h1 (by omega) (by omega))
  rw [hm] at hn
  rw [hn] at HOF
  have HI := Lib.hid (index_any A c w.heap.size l (h, id) w (RdI.of_own hown) (Nat.le_refl _) hlen ⟨h0, h1⟩)
  have q2' : w.cell? ⟨g, 2, none⟩ = some (.slice (some ⟨gr, 0, none⟩) m cap) := by rw [← hm]; exact q2
  have hnm : (n : Int) < (m : Int) := by omega
  by_cases hix : ix l (h, id) < l.length
  · have hh : hasI l (h, id) = true := decide_eq_true hix
    have hrr : remR l (h, id) = l.eraseIdx (ix l (h, id)) := if_pos hix
    have hiv : ixV l (h, id) = (ix l (h, id) : Int) := if_pos hix
    rw [hh, if_pos rfl, hrr]
    rw [hiv] at HI
    obtain ⟨i, hi⟩ : ∃ i, ix l (h, id) = i := ⟨_, rfl⟩
    rw [hi] at HI hix ⊢
    have hel : (l.eraseIdx i).length = l.length - 1 := by rw [List.length_eraseIdx, if_pos hix]
    have HD := Lib.hid (show ∀ wx, Below w.heap.size w wx → _ from fun wx (hb : Below w.heap.size w wx) => delete_any A c l i wx (ownsRow_below hown hb (fun r hr => (hown.lt r hr).2)) hix hlen)
    have HKP := Lib.hid (show ∀ wx w2, Below w.heap.size w wx → Keep (fun k => (Value.slice A l.length c).ownBlock = some k) wx w2 → w2.cell? ⟨g, 2, none⟩ = some (.slice (some ⟨gr, 0, none⟩) m cap) ∧ w2.cell? ⟨gr, n, none⟩ = some (.slice A l.length c) ∧ w2.frozen? ⟨gr, n, none⟩ = false from fun wx w2 hb hk => by
      have hk2 : Keep (fun k => (Value.slice A l.length c).ownBlock = some k) w w2 := (Keep.new (F := fun k => (Value.slice A l.length c).ownBlock = some k) hb).trans hk (fun i _ h => h)
      exact ⟨(hk2.cell (p := ⟨g, 2, none⟩) g1 hng).trans q2', (hk2.cell (p := ⟨gr, n, none⟩) g2 hngr).trans hcell, (hk2.frozen (p := ⟨gr, n, none⟩) g2 hngr).trans hfz⟩)
    have HFIN := Lib.hid (show ∀ wx w2, Below w.heap.size w wx → Keep (fun k => (Value.slice A l.length c).ownBlock = some k) wx w2 → w2.ownsRow 0 54 2 (.slice A (l.eraseIdx i).length c) (l.eraseIdx i).length (itL (l.eraseIdx i)) →
        ((w2.setCell ⟨gr, n, none⟩ (.slice A (l.length - 1) c)).cell? ⟨g, 1, none⟩ = some (.int .i64 cnt) ∧ (w2.setCell ⟨gr, n, none⟩ (.slice A (l.length - 1) c)).frozen? ⟨g, 1, none⟩ = false) ∧
        LB ((w2.setCell ⟨gr, n, none⟩ (.slice A (l.length - 1) c)).setCell ⟨g, 1, none⟩ (.int .i64 (cnt - 1))) (upG G w ((w2.setCell ⟨gr, n, none⟩ (.slice A (l.length - 1) c)).setCell ⟨g, 1, none⟩ (.int .i64 (cnt - 1)))) g least (cnt - 1) gr cap (L.set n (l.eraseIdx i)) ∧ Keep G w ((w2.setCell ⟨gr, n, none⟩ (.slice A (l.length - 1) c)).setCell ⟨g, 1, none⟩ (.int .i64 (cnt - 1))) from fun wx w2 hb hk hR => by
      have hk2 : Keep (fun k => (Value.slice A l.length c).ownBlock = some k) w w2 := (Keep.new (F := fun k => (Value.slice A l.length c).ownBlock = some k) hb).trans hk (fun i _ h => h)
      have hat : ∀ r, (Value.slice A (l.eraseIdx i).length c).ownBlock = some r → (Value.slice A l.length c).ownBlock = some r ∨ w.heap.size ≤ r := fun r hr => .inl (by cases A with
        | none => cases hr
        | some a => exact hr)
      have hL := hB.set hll hcell hk2 hR hat
      rw [hel] at hL
      have hcnt := hL.1.count (cnt - 1)
      obtain ⟨_, p1, _, _, t1, _⟩ := hL.1.cells
      obtain ⟨W3, hW3⟩ : ∃ W3, w2.setCell ⟨gr, n, none⟩ (.slice A (l.length - 1) c) = W3 := ⟨_, rfl⟩
      rw [hW3] at hL hcnt p1 t1 ⊢
      have e5 : (W3.setCell ⟨g, 1, none⟩ (.int .i64 (cnt - 1))).heap.size = W3.heap.size := by simp [World.setCell]
      have e6 : upG G w (W3.setCell ⟨g, 1, none⟩ (.int .i64 (cnt - 1))) = upG G w W3 := by unfold upG; rw [e5]
      refine ⟨⟨p1, t1⟩, by rw [e6]; exact hcnt.1, hL.2.setCell (.inl hB.2.1) _⟩)
    have hw : IntKind.i64.wrap (cnt - 1) = cnt - 1 := IntWalk.i64_in _ (by omega)
    have hi0 : (0 : Int) ≤ (i : Int) := by omega
    have hi1 : IntKind.i64.wrap ((i : Int) + 1) = (i : Int) + 1 := IntWalk.i64_in _ (by omega)
    clear hB hown hblk hll hgd hrl hlen hA n1 n2 hl h0 h1 m1 m2 hm hn q0 q1 q2 f0 f1 f2 hng hngr hlt hix hh hrr hiv hi hel hfz
    go_enter Try.func14, Try.ntmps14
    go_wp2_with (first
      | (go_at_call 37; refine HN.out.mono ?_; rintro e w' ⟨rfl, rfl⟩)
      | (go_at_call 38; refine HOF.out.mono ?_; rintro e w' ⟨rfl, rfl⟩)
      | (go_at_call 40; refine HI.out.mono ?_; rintro e w1 ⟨rfl, hb1⟩; have HB1 := Lib.hid hb1; obtain ⟨j0, j1, j2⟩ := HKP.out w1 w1 hb1 (Keep.refl _ _); clear hb1)
      | fail)
    go_region_with (first
      | (go_at_call 41
         refine (HD.out _ (below_drew HB1.out)).mono ?_
         rintro e w2 ⟨rfl, hR2, hk2⟩
         obtain ⟨k0, k1, k2⟩ := HKP.out _ w2 (below_drew HB1.out) hk2
         have HR2 := Lib.hid hR2
         have HK2 := Lib.hid hk2
         clear hR2 hk2)
      | fail)
    all_goals
      obtain ⟨⟨z1, z2⟩, hz3, hz4⟩ := HFIN.out _ w2 (below_drew HB1.out) HK2.out HR2.out
      obtain ⟨W3, hW3⟩ : ∃ W3, w2.setCell ⟨gr, n, none⟩ (.slice A (l.length - 1) c) = W3 := ⟨_, rfl⟩
      rw [hW3] at z1 z2 hz3 hz4 ⊢
      have HZ3 := Lib.hid hz3
      have HZ4 := Lib.hid hz4
      clear hz3 hz4 hW3
      go_wp2_with fail
      go_ret
      exact ⟨rfl, HZ3.out, HZ4.out⟩
  · have hh : hasI l (h, id) = false := decide_eq_false hix
    have hrr : remR l (h, id) = l := if_neg hix
    have hiv : ixV l (h, id) = -1 := if_neg hix
    have hset : L.set n l = L := by
      apply List.ext_getElem?
      intro k
      by_cases e : n = k
      · subst e; rw [List.getElem?_set_self (by omega), hll]
      · rw [List.getElem?_set_ne e]
    rw [hh, hrr, hset]
    rw [hiv] at HI
    have HFIN := Lib.hid (show ∀ w', Below w.heap.size w w' → LB w' (upG G w w') g least cnt gr cap L ∧ Keep G w w' from fun w' hb => ⟨(hB.keep (F := fun _ => False) (Keep.new hb) (fun _ _ h => h)).mono (fun k hk => .inl hk) (fun k hk => by
      rcases hk with hk | hk
      · exact Nat.lt_of_lt_of_le (hB.1 k hk) hb.size
      · exact hk.2), Keep.new hb⟩)
    clear hB hown hblk hll hgd hrl hlen hA n1 n2 hl h0 h1 m1 m2 hm hn q0 q1 q2 f0 f1 f2 hng hngr hlt hix hh hrr hiv hfz hset
    go_enter Try.func14, Try.ntmps14
    go_wp2_with (first
      | (go_at_call 37; refine HN.out.mono ?_; rintro e w' ⟨rfl, rfl⟩)
      | (go_at_call 38; refine HOF.out.mono ?_; rintro e w' ⟨rfl, rfl⟩)
      | (go_at_call 40; refine HI.out.mono ?_; rintro e w1 ⟨rfl, hb1⟩; have HB1 := Lib.hid hb1; clear hb1)
      | fail)
    go_ret
    exact ⟨rfl, HFIN.out _ HB1.out⟩
end Go.Proofs.Ytjipncpplpfobaa.Lb
