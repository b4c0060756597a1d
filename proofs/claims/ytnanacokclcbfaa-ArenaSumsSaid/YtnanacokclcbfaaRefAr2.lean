/- The document's arena: New, Take, Set, Drop, each by its contract. -/
import Derived.Test.YtnanacokclcbfaaRefAr
import Derived.Test.YtnanacokclcbfaaSteps
import Derived.Test.YtnanacokclcbfaaHeldZ
import Derived.Test.YtnanacokclcbfaaRises
namespace Go.Proofs.Ytnanacokclcbfaa.Ar
open Go.RowKit K
set_option linter.unusedVariables false
set_option linter.unusedSimpArgs false

theorem below_drew {B : Nat} {w w' : World} (h : Below B w w') : Below B w w'.drew := ⟨h.os, h.tape, h.output, h.size, h.block⟩
theorem bal {w x : World} (h : Below w.heap.size w x) (o : Obj) : Below w.heap.size w (x.alloc o) := h.alloc h.size o
theorem infoBlock : (Try.prog.info? 84).map (fun i => (i.zero, i.size, i.bytes)) = some (some (.agg #[.int .i64 0, .slice none 0 0]), 2, 32) := by kernel_rfl
/-- append([]uint64{}, l...): the run, told ahead. -/
theorem app1 (w wx : World) (hb : Below w.heap.size w wx) (sA : Nat) (hA : wx.ownsRow w.heap.size 68 1 (.slice (some ⟨sA, 0, none⟩) 0 0) 0 []) (A : Option Addr) (c k : Nat) (xs : List Value) (hr : Reads w w.heap.size 1 A k xs) (h1 : ∀ u ∈ xs, u.oneCell' = true) (hl : k ≤ 1099511627776) :
    ∃ A1 c1 w1, (Builtin.append_ #[32, 32] 32 #[.slice (some ⟨sA, 0, none⟩) 0 0, .slice A k c]).run Try.prog wx = .ok (.slice A1 k c1) w1 ∧ w1.ownsRow w.heap.size 68 1 (.slice A1 k c1) k xs ∧ Below w.heap.size w w1 := by
  obtain ⟨i0, hi, hz0, hz1, hz2⟩ := info_parts infoU64'
  obtain ⟨v1, w1, run1, o1, gr1, at1⟩ := run_append_any (P := Try.prog) wx w.heap.size 32 32 68 i0 _ 1 8 Try.underlying32 hi hz0 hz1 hz2 rfl (by decide) (.slice (some ⟨sA, 0, none⟩) 0 0) 0 [] hA w.heap.size A k c xs (hr.below hb)
    h1 (by unfold maxLen; omega) (by omega) hb.size
  rw [Nat.zero_add, List.nil_append] at o1
  obtain ⟨A1, c1, rfl, _, _⟩ := ownsRow_form o1
  exact ⟨A1, c1, w1, run1, o1, hb.grown gr1 hb.size (fun r hr2 => (hA.lt r hr2).1)⟩
theorem lit_own (w : World) (x : World) (hb : Below w.heap.size w x) : (x.alloc (.cells #[] 68)).ownsRow w.heap.size 68 1 (.slice (some ⟨x.heap.size, 0, none⟩) 0 0) 0 [] :=
  ownsRow_base (World.ownsRow_lit (base := x.heap.size) (e := 68) (size := 1) x #[] 0 (Nat.le_refl _) (Nat.zero_le _) (by simp)) (fun r hr => by
    have : r = x.heap.size := by simpa [Value.ownBlock] using hr.symm
    rw [this]; exact hb.size)
theorem app_lit (w : World) (A : Option Addr) (c k : Nat) (xs : List Value) (hr : Reads w w.heap.size 1 A k xs) (h1 : ∀ u ∈ xs, u.oneCell' = true) (hl : k ≤ 1099511627776) :
    ∃ A1 c1 w1, (Builtin.append_ #[32, 32] 32 #[.slice (some ⟨w.heap.size, 0, none⟩) 0 0, .slice A k c]).run Try.prog (w.drew.alloc (.cells #[] 68)) = .ok (.slice A1 k c1) w1 ∧ w1.ownsRow w.heap.size 68 1 (.slice A1 k c1) k xs ∧ Below w.heap.size w w1 :=
  app1 w _ (bal (below_drew (Below.refl _ _)) _) w.heap.size (lit_own w w.drew (below_drew (Below.refl _ _))) A c k xs hr h1 hl
theorem quiet_left {P : Program} {f : Nat} {args : Array Value} {w : World} {n : Nat} {v : Value} (h : Calls P f args (w.drewN n) fun e w' => e = .returned v ∧ w.drewN n = w') :
    Calls P f args (w.drewN n) fun e w'' => e = .returned v ∧ ∃ m, w'' = w.drewN m := h.mono fun _ _ ⟨he, hm⟩ => ⟨he, n, hm.symm⟩
/-- A cell that is written over with what it has. -/
theorem own_self {w : World} {base b0 n c size i : Nat} {t : TypeId} {xs : List Value} {v : Value} (h : w.ownsRow base t size (.slice (some ⟨b0, 0, none⟩) n c) n xs) (hc : w.cell? ⟨b0, i, none⟩ = some v) : w.setCell ⟨b0, i, none⟩ v = w := by
  rcases h.2 with ⟨h', _⟩ | ⟨g', cap', cur, hv, _, hg', _⟩
  · cases h'
  have hg2 : b0 = g' := by injection hv with h5; injection h5 with h5; injection h5
  subst hg2
  have hB : Blk w b0 t cur := hg'
  rw [hB.cell] at hc
  have hh : (w.setCell ⟨b0, i, none⟩ v).heap = w.heap := by
    apply Array.ext_getElem?
    intro k
    by_cases e : k = b0
    · subst e
      rw [heap_setCell_same w k i cur t v hg', hg']
      congr 2
      apply Array.ext_getElem?
      intro j
      rw [Array.getElem?_setIfInBounds]
      split
      · rename_i e2
        subst e2
        split
        · exact hc.symm
        · rename_i h2
          rw [Array.getElem?_eq_none (by omega)]
      · rfl
    · exact heap_setCell_other w _ k v e
  cases w
  simp only [World.setCell] at hh ⊢
  rw [hh]
/-- Behind a call: what the document's arena has, and nothing outside its own blocks has turned. -/
def RMoved (w : World) (G : Nat → Prop) (g all : Nat) (B : Bks) (w' : World) : Prop :=
  ∃ G' : Nat → Prop, RAr w' G' g all B ∧ (∀ k, G' k → G k ∨ w.heap.size ≤ k) ∧ Keep G w w'
section
variable {w w1 : World} {G : Nat → Prop} {g all : Nat} {B : Bks}
theorem RMoved.stay (h : RAr w G g all B) : RMoved w G g all B w := ⟨G, h, fun k hk => .inl hk, Keep.refl _ _⟩
theorem RMoved.drewN {w' : World} (h : RMoved w G g all B w') (d : Nat) : RMoved w G g all B (w'.drewN d) := by
  obtain ⟨G', h1, h2, h3⟩ := h
  exact ⟨G', h1, h2, ⟨h3.os, h3.tape, h3.output, h3.size, h3.block⟩⟩
theorem RMoved.undrewN {w' : World} {d : Nat} (h : RMoved (w.drewN d) G g all B w') : RMoved w G g all B w' := by
  obtain ⟨G', h1, h2, h3⟩ := h
  exact ⟨G', h1, h2, ⟨h3.os, h3.tape, h3.output, h3.size, h3.block⟩⟩
theorem RAr.two {A : Option Addr} {c : Nat} (h : RAr w G g all B) (hc : w.cell? ⟨g, 1, none⟩ = some (.slice A B.length c)) :
    ∃ V, Blk w g 75 #[.int .i64 (all : Int), .slice A B.length c] ∧ w.ownsRow 0 84 2 (.slice A B.length c) B.length V ∧ (∀ r, (Value.slice A B.length c).ownBlock = some r → G r) ∧ ∀ i o, B[i]? = some o → ∃ a b, V[i * 2]? = some a ∧ V[i * 2 + 1]? = some b ∧ Ent w G i o a b := by
  obtain ⟨h1, h2, A', c', V, h3, h4, h5, h6⟩ := h
  rw [h3.cell] at hc
  have e : Value.slice A' B.length c' = .slice A B.length c := by simpa using hc
  injection e with e1 _ e2
  subst e1 e2
  exact ⟨V, h3, h4, h5, h6⟩
/-- A block more: the run of the append is told, and what lies then. -/
theorem RAr.push {A : Option Addr} {c : Nat} (h : RAr w G g all B) (hc : w.cell? ⟨g, 1, none⟩ = some (.slice A B.length c)) {ws : List Int} {A1 : Option Addr} {c1 : Nat} (hb : Below w.heap.size w w1) (ho : w1.ownsRow w.heap.size 68 1 (.slice A1 ws.length c1) ws.length (wds ws)) (hl : B.length ≤ 65536) :
    ∃ g1 c2 w2, (Builtin.append_ #[73, 73] 73 #[.slice A B.length c, .slice (some ⟨w1.heap.size, 0, none⟩) 1 1]).run Try.prog (w1.alloc (.cells #[.int .i64 ((B.length : Int) + 1), .slice A1 ws.length c1] 84)) = .ok (.slice (some ⟨g1, 0, none⟩) (B.length + 1) c2) w2 ∧
      (w2.cell? ⟨g, 1, none⟩ = some (.slice A B.length c) ∧ w2.frozen? ⟨g, 1, none⟩ = false) ∧ RMoved w G g all (B ++ [some ws]) (w2.setCell ⟨g, 1, none⟩ (.slice (some ⟨g1, 0, none⟩) (B.length + 1) c2)) := by
  obtain ⟨V, h3, h4, h5, h6⟩ := h.two hc
  obtain ⟨h1, h2, _⟩ := h
  have hgl := h3.lt
  obtain ⟨W1, hW1⟩ : ∃ z, w1.alloc (.cells #[.int .i64 ((B.length : Int) + 1), .slice A1 ws.length c1] 84) = z := ⟨_, rfl⟩
  have hbW : Below w.heap.size w W1 := by rw [← hW1]; exact bal hb _
  have h4W : W1.ownsRow 0 84 2 (.slice A B.length c) B.length V := ownsRow_below h4 hbW (fun r hr => (h4.lt r hr).2)
  have hX : Blk W1 w1.heap.size 84 #[.int .i64 ((B.length : Int) + 1), .slice A1 ws.length c1] := by rw [← hW1]; exact Blk.new _ _ _
  have hoW : W1.ownsRow w.heap.size 68 1 (.slice A1 ws.length c1) ws.length (wds ws) := by rw [← hW1]; exact ho.alloc _
  obtain ⟨i0, hi, hz0, hz1, hz2⟩ := info_parts infoBlock
  obtain ⟨v2, w2, run2, o2, gr2, _, at2⟩ := run_append_own_at (P := Try.prog) W1 0 73 73 84 i0 _ 2 32 Try.underlying73 hi hz0 hz1 hz2 rfl (by decide) (.slice A B.length c) B.length V h4W
    ⟨w1.heap.size, 0, none⟩ 1 1 [.int .i64 ((B.length : Int) + 1), .slice A1 ws.length c1] rfl (fun j u hj => by
    rcases j with _ | _ | j
    · simp at hj; subst hj; simpa [Addr.add] using (hX.cell 0)
    · simp at hj; subst hj; simpa [Addr.add] using (hX.cell 1)
    · simp at hj) (by simp [Value.oneCell']) (by unfold maxLen; omega) (by omega) (Nat.zero_le _)
  obtain ⟨g1, c2, hv2, _⟩ := World.ownsRow.form o2 (Nat.succ_pos _)
  subst hv2
  have hgA : (Value.slice A B.length c).ownBlock ≠ some g := own_blk_ne h4 h3 (by decide)
  have hgW : Blk W1 g 75 #[.int .i64 (all : Int), .slice A B.length c] := h3.below hbW hgl
  have hg2 : Blk w2 g 75 #[.int .i64 (all : Int), .slice A B.length c] := hgW.grown gr2 (fun e => hgA e.symm)
  have hnew : ∀ r, (Value.slice (some ⟨g1, 0, none⟩) (B.length + 1) c2).ownBlock = some r → (Value.slice A B.length c).ownBlock = some r ∨ w.heap.size ≤ r := fun r hr => by
    rcases at2 with e | e
    · left; rw [← e]; exact hr
    · right
      rw [e] at hr
      injection hr with hr
      have := hbW.size
      omega
  have K1 : Keep (fun k => (Value.slice A B.length c).ownBlock = some k ∨ k = g) w1 (w2.setCell ⟨g, 1, none⟩ (.slice (some ⟨g1, 0, none⟩) (B.length + 1) c2)) := by
    have q1 : Keep (fun k => (Value.slice A B.length c).ownBlock = some k ∨ k = g) w1 W1 := by rw [← hW1]; exact (Keep.refl _ _).alloc _
    exact Keep.setCell (F := fun k => (Value.slice A B.length c).ownBlock = some k ∨ k = g) (p := ⟨g, 1, none⟩) (q1.grown gr2 (fun k hk => .inl (.inl hk))) (.inl (.inr rfl)) _
  have K0 : Keep (fun k => (Value.slice A B.length c).ownBlock = some k ∨ k = g) w (w2.setCell ⟨g, 1, none⟩ (.slice (some ⟨g1, 0, none⟩) (B.length + 1) c2)) :=
    ((show Keep (fun _ => False) w w1 from Keep.new hb).mono (fun _ _ (h : False) => h.elim)).trans K1 (fun _ _ h => h)
  have hz : (w2.setCell ⟨g, 1, none⟩ (.slice (some ⟨g1, 0, none⟩) (B.length + 1) c2)).heap.size = w2.heap.size := by simp [World.setCell]
  have el : (B ++ [some ws]).length = B.length + 1 := by simp
  rw [hW1]
  refine ⟨g1, c2, w2, run2, ⟨by rw [hg2.cell]; rfl, hg2.frozen _⟩, fun k => (G k ∨ w.heap.size ≤ k) ∧ k < (w2.setCell ⟨g, 1, none⟩ (.slice (some ⟨g1, 0, none⟩) (B.length + 1) c2)).heap.size, ⟨fun k hk => hk.2, ⟨.inl h2, Nat.lt_of_lt_of_le hgl K0.size⟩, some ⟨g1, 0, none⟩, c2, V ++ [.int .i64 ((B.length : Int) + 1), .slice A1 ws.length c1], ?_, ?_, ?_, ?_⟩, fun k hk => hk.1, K0.mono (fun k _ hk => ?_)⟩
  · have := hg2.set_ 1 (.slice (some ⟨g1, 0, none⟩) (B.length + 1) c2)
    rw [el]
    simpa using this
  · rw [el]
    refine ownsRow_keep o2 ((Keep.refl (fun k => k = g) w2).setCell (p := ⟨g, 1, none⟩) (.inl rfl) _) (fun r hr e => ?_)
    subst e
    exact own_blk_ne o2 hg2 (by decide) hr
  · rw [el]
    intro r hr
    refine ⟨?_, by rw [hz]; exact (o2.lt r hr).2⟩
    rcases hnew r hr with h' | h'
    · exact .inl (h5 r h')
    · exact .inr h'
  · intro i o hi'
    have hVl : V.length = B.length * 2 := h4.1
    rcases Nat.lt_or_ge i B.length with hlt | hge
    · rw [List.getElem?_append_left hlt] at hi'
      obtain ⟨a, b, e1, e2, e3⟩ := h6 i o hi'
      refine ⟨a, b, by rw [List.getElem?_append_left (by omega)]; exact e1, by rw [List.getElem?_append_left (by omega)]; exact e2, ?_⟩
      have hk : Ent (w2.setCell ⟨g, 1, none⟩ (.slice (some ⟨g1, 0, none⟩) (B.length + 1) c2)) G i o a b := by
        refine e3.keep K0 (fun r hr hF => ?_)
        rcases hF with hF | hF
        · rcases h4.2 with ⟨h', _⟩ | ⟨g', cap', cur, hv, _, hg', _⟩
          · rw [h'] at hF; simp [Value.ownBlock] at hF
          · rw [hv] at hF
            have : g' = r := by simpa [Value.ownBlock] using hF
            subst this
            exact e3.apart (show Blk w g' 84 cur from hg') (by decide) hr
        · subst hF
          exact e3.apart h3 (by decide) hr
      have hk2 : ∀ r, b.ownBlock = some r → r < w.heap.size := fun r hr => h1 r (e3.in_ r hr)
      cases o with
      | none => exact hk
      | some ws' =>
        obtain ⟨q1, A', c', rfl, q3, q4⟩ := hk
        exact ⟨q1, A', c', rfl, q3, fun r hr => ⟨.inl (q4 r hr), Nat.lt_of_lt_of_le (hk2 r hr) K0.size⟩⟩
    · have hlt' := (List.getElem?_eq_some_iff.1 hi').1
      rw [el] at hlt'
      obtain rfl : i = B.length := by omega
      rw [List.getElem?_append_right (Nat.le_refl _), Nat.sub_self] at hi'
      have ho' : o = some ws := by simpa using hi'.symm
      subst ho'
      refine ⟨_, _, by rw [List.getElem?_append_right (by omega), show B.length * 2 - V.length = 0 by omega]; rfl, by rw [List.getElem?_append_right (by omega), show B.length * 2 + 1 - V.length = 1 by omega]; rfl, rfl, A1, c1, rfl, ?_, fun r hr => ⟨.inr (ho.lt r hr).1, Nat.lt_of_lt_of_le (ho.lt r hr).2 K1.size⟩⟩
      refine ownsRow_base (ownsRow_keep ho K1 (fun r hr hF => ?_)) (fun r _ => Nat.zero_le r)
      have := (ho.lt r hr).1
      rcases hF with hF | hF
      · have := (h4.lt r hF).2; omega
      · omega
  · rcases hk with hk | hk
    · exact h5 k hk
    · subst hk; exact h2
/-- An entry is another now: its two cells. -/
theorem RAr.put {b0 c j : Nat} {o : Option (List Int)} {x y : Value} (h : RAr w G g all B) (hc : w.cell? ⟨g, 1, none⟩ = some (.slice (some ⟨b0, 0, none⟩) B.length c)) (hj : j < B.length) (hb : Below w.heap.size w w1) (hE : Ent w1 (fun k => G k ∨ w.heap.size ≤ k) j o x y) (hEl : ∀ r, y.ownBlock = some r → r < w1.heap.size) :
    RMoved w G g all (B.set j o) ((w1.setCell ⟨b0, j * 2, none⟩ x).setCell ⟨b0, j * 2 + 1, none⟩ y) := by
  obtain ⟨V, h3, h4, h5, h6⟩ := h.two hc
  obtain ⟨h1, h2, _⟩ := h
  have hgl := h3.lt
  have h4W : w1.ownsRow 0 84 2 (.slice (some ⟨b0, 0, none⟩) B.length c) B.length V := ownsRow_below h4 hb (fun r hr => (h4.lt r hr).2)
  have s1 := (h4W.stored (j * 2) x).1
  have s2 := (s1.stored (j * 2 + 1) y).1
  have hgA : (Value.slice (some ⟨b0, 0, none⟩) B.length c).ownBlock ≠ some g := own_blk_ne h4 h3 (by decide)
  have hne : b0 ≠ g := fun e => hgA (by rw [e]; rfl)
  have hg1 : Blk w1 g 75 #[.int .i64 (all : Int), .slice (some ⟨b0, 0, none⟩) B.length c] := h3.below hb hgl
  have hb0w : ∃ cur, Blk w1 b0 84 cur := by
    rcases h4W.2 with ⟨h', _⟩ | ⟨g', cap', cur, hv, _, hg', _⟩
    · cases h'
    have hg2 : b0 = g' := by injection hv with h5; injection h5 with h5; injection h5
    subst hg2
    exact ⟨cur, hg'⟩
  obtain ⟨cur, hcur⟩ := hb0w
  have K1 : Keep (fun k => k = b0) w1 ((w1.setCell ⟨b0, j * 2, none⟩ x).setCell ⟨b0, j * 2 + 1, none⟩ y) := Keep.setCell (F := fun k => k = b0) (p := ⟨b0, j * 2 + 1, none⟩) (Keep.setCell (F := fun k => k = b0) (p := ⟨b0, j * 2, none⟩) (Keep.refl _ _) (.inl rfl) x) (.inl rfl) y
  have K0 : Keep (fun k => k = b0) w ((w1.setCell ⟨b0, j * 2, none⟩ x).setCell ⟨b0, j * 2 + 1, none⟩ y) := ((show Keep (fun _ => False) w w1 from Keep.new hb).mono (fun _ _ (h : False) => h.elim)).trans K1 (fun _ _ h => h)
  have hVl : V.length = B.length * 2 := h4.1
  have hz : w1.heap.size ≤ ((w1.setCell ⟨b0, j * 2, none⟩ x).setCell ⟨b0, j * 2 + 1, none⟩ y).heap.size := K1.size
  refine ⟨fun k => (G k ∨ w.heap.size ≤ k) ∧ k < ((w1.setCell ⟨b0, j * 2, none⟩ x).setCell ⟨b0, j * 2 + 1, none⟩ y).heap.size, ⟨fun k hk => hk.2, ⟨.inl h2, Nat.lt_of_lt_of_le hgl K0.size⟩, some ⟨b0, 0, none⟩, c, (V.set (j * 2) x).set (j * 2 + 1) y, ?_, ?_, ?_, ?_⟩, fun k hk => hk.1, K0.mono (fun k _ hk => hk ▸ h5 b0 rfl)⟩
  · rw [List.length_set]
    exact (hg1.far (fun e => hne e.symm) _).far (fun e => hne e.symm) _
  · rw [List.length_set]; exact s2
  · rw [List.length_set]
    intro r hr
    exact ⟨.inl (h5 r hr), Nat.lt_of_lt_of_le ((h4.lt r hr).2) K0.size⟩
  · intro i o' hi'
    by_cases e : j = i
    · subst e
      rw [List.getElem?_set_self hj] at hi'
      injection hi' with hi'
      subst hi'
      refine ⟨x, y, by rw [List.getElem?_set_ne (by omega), List.getElem?_set_self (by omega)], by rw [List.getElem?_set_self (by simp; omega)], ?_⟩
      have hk : Ent ((w1.setCell ⟨b0, j * 2, none⟩ x).setCell ⟨b0, j * 2 + 1, none⟩ y) (fun k => G k ∨ w.heap.size ≤ k) j o x y := hE.keep K1 (fun r hr hF => by subst hF; exact hE.apart hcur (by decide) hr)
      cases o with
      | none => exact hk
      | some ws' =>
        obtain ⟨q1, A', c', rfl, q3, q4⟩ := hk
        exact ⟨q1, A', c', rfl, q3, fun r hr => ⟨q4 r hr, Nat.lt_of_lt_of_le (hEl r hr) hz⟩⟩
    · rw [List.getElem?_set_ne e] at hi'
      obtain ⟨a, b, e1, e2, e3⟩ := h6 i o' hi'
      refine ⟨a, b, by rw [List.getElem?_set_ne (by omega), List.getElem?_set_ne (by omega)]; exact e1, by rw [List.getElem?_set_ne (by omega), List.getElem?_set_ne (by omega)]; exact e2, ?_⟩
      have hb0' : ∃ cur, Blk w b0 84 cur := by
        rcases h4.2 with ⟨h', _⟩ | ⟨g', cap', cur, hv, _, hg', _⟩
        · cases h'
        have hg2 : b0 = g' := by injection hv with h5; injection h5 with h5; injection h5
        subst hg2
        exact ⟨cur, hg'⟩
      obtain ⟨cur', hcur'⟩ := hb0'
      have hk : Ent ((w1.setCell ⟨b0, j * 2, none⟩ x).setCell ⟨b0, j * 2 + 1, none⟩ y) G i o' a b := e3.keep K0 (fun r hr hF => by subst hF; exact e3.apart hcur' (by decide) hr)
      have hk2 : ∀ r, b.ownBlock = some r → r < w.heap.size := fun r hr => h1 r (e3.in_ r hr)
      cases o' with
      | none => exact hk
      | some ws' =>
        obtain ⟨q1, A', c', rfl, q3, q4⟩ := hk
        exact ⟨q1, A', c', rfl, q3, fun r hr => ⟨.inl (q4 r hr), Nat.lt_of_lt_of_le (hk2 r hr) K0.size⟩⟩
end
def MadeR (w : World) (all : Nat) (e : Ending) (w' : World) : Prop :=
  ∃ g, e = .returned (.tuple #[.pointer (some ⟨g, 0, none⟩), .int .i64 0]) ∧ RAr w' (fun k => w.heap.size ≤ k ∧ k < w'.heap.size) g all [] ∧ Below w.heap.size w w'
set_option maxRecDepth 100000 in
set_option maxHeartbeats 4000000 in
theorem rnew_yes (all : Nat) (h1 : 1 ≤ all) (h2 : all ≤ 16777216) (w : World) : Calls Try.prog 20 #[.int .i64 (all : Int)] w (MadeR w all) := by
  have c1 : (1 : Int) ≤ (all : Int) := by omega
  have c2 : (all : Int) ≤ 16777216 := by omega
  go_enter Try.func20, Try.ntmps20
  go_wp2_with fail
  go_ret2
  refine ⟨w.heap.size, rfl, ⟨fun k hk => hk.2, by simp, none, 0, [], Blk.new _ _ _, World.ownsRow_nil _ _ _ _, fun r hr => by simp [Value.ownBlock] at hr, fun i o hi => by simp at hi⟩, (Below.refl _ _).alloc (Nat.le_refl _) _⟩
set_option maxRecDepth 100000 in
set_option maxHeartbeats 4000000 in
theorem rnew_no (n : Int) (hn : (Lit.int .i64 n).wf = true) (h : n < 1 ∨ 16777216 < n) (w : World) :
    Calls Try.prog 20 #[.int .i64 n] w fun e w' => e = .returned (.tuple #[.pointer none, .int .i64 2]) ∧ w = w' := by
  obtain ⟨n1, n2⟩ := bounds_i64 hn
  by_cases h1 : n < 1
  · clear h
    go_enter Try.func20, Try.ntmps20
    go_wp2_with fail
    go_ret2
    exact ⟨rfl, rfl⟩
  · have h2 : 16777216 < n := by omega
    clear h
    go_enter Try.func20, Try.ntmps20
    go_wp2_with fail
    go_ret2
    exact ⟨rfl, rfl⟩
section
variable {w : World} {G : Nat → Prop} {g all : Nat} {B : Bks}
set_option maxRecDepth 100000 in
set_option maxHeartbeats 8000000 in
theorem rtake_any (h : RAr w G g all B) (hL : LenOk B) (hn : B.length ≤ 60000) (hu : used B ≤ all) (ha : all ≤ 16777216) (A2 : Option Addr) (c2 : Nat) (ws : List Int) (hx : Reads w w.heap.size 1 A2 ws.length (wds ws)) (hl : ws.length ≤ 65536) :
    Calls Try.prog 33 #[.pointer (some ⟨g, 0, none⟩), .slice A2 ws.length c2] w fun e w' => e = .returned (.tuple #[.int .i64 (tkN all B ws.length), .int .i64 (tkE all B ws.length)]) ∧ RMoved w G g all (tkB all B ws) w' := by
  have HT := Lib.hid (RMoved.stay h)
  obtain ⟨hg, q0, qf, A, c, q1, hA⟩ := h.cells
  have HU := Lib.hid (fun d => rused_any (w := w.drewN d) h hL (by omega) (by omega))
  have HRO := Lib.hid (fun w => rround_any (ws.length : Int) (WalkArith.wf_i64 (by omega)) w)
  obtain ⟨m, hm⟩ : ∃ m, B.length = m := ⟨_, rfl⟩
  have q1' := q1
  rw [hm] at q1
  by_cases hz : ws.length < 1 ∨ 16777216 < ws.length
  · have E1 := Lib.hid (show tkE all B ws.length = 2 from by unfold tkE; rw [if_pos hz])
    have E2 := Lib.hid (show tkN all B ws.length = 0 from by unfold tkN; rw [if_pos hz])
    have E3 := Lib.hid (show tkB all B ws = B from by unfold tkB; rw [if_pos hz])
    have hr0 : rndI (ws.length : Int) = 0 := by unfold rndI; rw [if_pos (by omega)]
    rw [hr0] at HRO
    clear h hL hu ha hx hz hm q1'
    go_enter Try.func33, Try.ntmps33
    go_wp2_with (first | (go_at_call 10; refine (HRO.out _).mono ?_; rintro e w' ⟨rfl, rfl⟩) | fail)
    go_ret2
    exact ⟨by rw [E1.out, E2.out]; rfl, by rw [E3.out]; exact HT.out⟩
  · have l1 : 1 ≤ ws.length := by omega
    have l2 : ws.length ≤ 16777216 := by omega
    rw [rndI_nat l1 l2] at HRO
    obtain ⟨r, hr⟩ : ∃ r, rnd ws.length = r := ⟨_, rfl⟩
    have hrp := rnd_pos l1 l2
    rw [hr] at HRO hrp
    have hr2 : r ≤ 16777216 := by rw [← hr]; exact rnd_max l1 l2
    obtain ⟨u, huu⟩ : ∃ u, used B = u := ⟨_, rfl⟩
    have hrne : ((r : Int) == 0) = false := by rw [beq_eq_false_iff_ne]; omega
    have hrne2 : decide (r = 0) = false := decide_eq_false (by omega)
    rw [huu] at HU
    have HRQ := Lib.hid (fun d => quiet_left (n := d) (HRO.out (w.drewN d)))
    have HUQ := Lib.hid (fun d => quiet_left (n := d) (HU.out d))
    have hw1 : IntKind.i64.wrap ((all : Int) - (u : Int)) = (all : Int) - (u : Int) := IntWalk.i64_in _ (by omega)
    by_cases hfit : used B + rnd ws.length ≤ all
    · have E1 := Lib.hid (show tkE all B ws.length = 0 from by unfold tkE; rw [if_neg hz, if_pos hfit])
      have E2 := Lib.hid (show tkN all B ws.length = (B.length : Int) + 1 from by unfold tkN; rw [if_neg hz, if_pos hfit])
      have E3 := Lib.hid (show tkB all B ws = B ++ [some ws] from by unfold tkB; rw [if_neg hz, if_pos hfit])
      have hf1 : decide ((all : Int) - (u : Int) < (r : Int)) = false := decide_eq_false (by omega)
      have HH := Lib.hid h
      have HQ := Lib.hid q1'
      have HX := Lib.hid hx
      have HM := Lib.hid hm
      have hmb : m ≤ 60000 := by omega
      clear h hL hu ha hx hz hm hr hfit huu l1 l2 hrp HU q1' hn
      go_enter Try.func33, Try.ntmps33
      go_wp2_with (first | (go_at_call 10; refine (HRO.out _).mono ?_; rintro e w' ⟨rfl, rfl⟩) | fail)
      go_quiet (first | (go_at_call 10; exact HRQ.out _) | (go_at_call 39; exact HUQ.out _))
      go_wp2_with fail
      obtain ⟨wv, hwv⟩ : ∃ z, w.drewN nq = z := ⟨_, rfl⟩
      have hH : RAr wv G g all B := by rw [← hwv]; exact HH.out
      have hQ : wv.cell? ⟨g, 1, none⟩ = some (.slice A B.length c) := by rw [← hwv]; exact HQ.out
      have hxv : Reads wv wv.heap.size 1 A2 ws.length (wds ws) := by rw [← hwv]; exact HX.out
      obtain ⟨A1, c1, w1, run1, o1, b1⟩ := app_lit wv A2 c2 ws.length (wds ws) hxv (wds_one ws) (by omega)
      obtain ⟨g1, cc, w2, run2, ⟨y2, y2f⟩, hmv⟩ := hH.push hQ b1 o1 (by rw [HM.out]; omega)
      rw [HM.out] at y2 run2 hmv hQ
      have HFIN := Lib.hid (show ∀ W', RMoved wv G g all (B ++ [some ws]) W' → RMoved w G g all (B ++ [some ws]) W' from fun W' h' => by rw [← hwv] at h'; exact h'.undrewN)
      have HKS := Lib.hid (show ∀ wx, Below wv.heap.size wv wx → wx.cell? ⟨g, 1, none⟩ = some (.slice A m c) from fun wx hb => (hb.cell (p := ⟨g, 1, none⟩) (World.block_lt_of_cell? _ _ hQ)).trans hQ)
      have bd0 : Below wv.heap.size wv wv.drew := below_drew (Below.refl _ _)
      obtain ⟨W2, hW2⟩ : ∃ z, w2.setCell ⟨g, 1, none⟩ (.slice (some ⟨g1, 0, none⟩) (m + 1) cc) = z := ⟨_, rfl⟩
      rw [hW2] at hmv
      have HR1 := Lib.hid run1
      have HR2 := Lib.hid run2
      have B1 := Lib.hid b1
      have HW2 := Lib.hid hW2
      have HMV := Lib.hid hmv
      rw [hwv]
      clear hH hxv run1 o1 b1 run2 hmv hW2 hwv q0 q1 qf hQ hg
      refine Zed.begin (S := fun wx => wx.cell? ⟨g, 1, none⟩ = some (.slice A m c)) (z := 14) (by kernel_rfl) (HKS.out _ bd0) (fun hHeld => ?_)
      refine Zed.take (i := 0) (oi := ⟨some 28, _, _, _, _, _⟩) (v := ?_) rfl (by kernel_rfl) (by kernel_rfl) (by kernel_rfl) (by kernel_rfl) (fun _ _ _ h => h) (Or.inl ⟨by rfl, ?_⟩) (by assumption) ?_
      rotate_left
      · intro wS hSw; (try dsimp only at hSw); go_simp; try with_reducible rfl
      try simp only [Act.put, List.setIfInBounds_toArray, List.set_cons_zero, List.set_cons_succ]
      refine Zed.take (i := 1) (oi := ⟨some 29, _, _, _, _, _⟩) (v := ?_) rfl (by kernel_rfl) (by kernel_rfl) (by kernel_rfl) (by kernel_rfl) (fun _ _ _ h => h) (Or.inl ⟨by rfl, ?_⟩) (by assumption) ?_
      rotate_left
      · intro wS hSw; (try dsimp only at hSw); go_simp; try with_reducible rfl
      try simp only [Act.put, List.setIfInBounds_toArray, List.set_cons_zero, List.set_cons_succ]
      refine Zed.take (i := 2) (oi := ⟨some 30, _, _, _, _, _⟩) (v := ?_) rfl (by kernel_rfl) (by kernel_rfl) (by kernel_rfl) (by kernel_rfl) (fun _ _ _ h => h) (Or.inl ⟨by rfl, ?_⟩) (by assumption) ?_
      rotate_left
      · intro wS hSw; (try dsimp only at hSw); go_simp; try with_reducible rfl
      try simp only [Act.put, List.setIfInBounds_toArray, List.set_cons_zero, List.set_cons_succ]
      refine Zed.take (i := 3) (oi := ⟨some 31, _, _, _, _, _⟩) (v := ?_) rfl (by kernel_rfl) (by kernel_rfl) (by kernel_rfl) (by kernel_rfl) (fun _ _ _ h => h) (Or.inl ⟨by rfl, ?_⟩) (by assumption) ?_
      rotate_left
      · intro wS hSw; (try dsimp only at hSw); go_simp; try with_reducible rfl
      try simp only [Act.put, List.setIfInBounds_toArray, List.set_cons_zero, List.set_cons_succ]
      refine Zed.take (i := 4) (oi := ⟨some 32, _, _, _, _, _⟩) (v := ?_) rfl (by kernel_rfl) (by kernel_rfl) (by kernel_rfl) (by kernel_rfl) (fun _ _ _ h => h) (Or.inl ⟨by rfl, ?_⟩) (by assumption) ?_
      rotate_left
      · intro wS hSw; (try dsimp only at hSw); go_simp; try with_reducible rfl
      try simp only [Act.put, List.setIfInBounds_toArray, List.set_cons_zero, List.set_cons_succ]
      refine Zed.take (i := 5) (oi := ⟨some 33, _, _, _, _, _⟩) (v := ?_) rfl (by kernel_rfl) (by kernel_rfl) (by kernel_rfl) (by kernel_rfl) (fun _ _ _ h => h) (Or.inl ⟨by rfl, ?_⟩) (by assumption) ?_
      rotate_left
      · intro wS hSw; (try dsimp only at hSw); go_simp; try with_reducible rfl
      try simp only [Act.put, List.setIfInBounds_toArray, List.set_cons_zero, List.set_cons_succ]
      refine Zed.take (i := 7) (oi := ⟨some 35, _, _, _, _, _⟩) (v := ?_) rfl (by kernel_rfl) (by kernel_rfl) (by kernel_rfl) (by kernel_rfl) (fun _ _ _ h => h) (Or.inl ⟨by rfl, ?_⟩) (by assumption) ?_
      rotate_left
      · intro wS hSw; (try dsimp only at hSw); go_simp; try with_reducible rfl
      try simp only [Act.put, List.setIfInBounds_toArray, List.set_cons_zero, List.set_cons_succ]
      refine Zed.ready (rs := [6]) (by kernel_rfl) (by simp) ?_
      refine Zeach.cons (o := ⟨some 34, _, _, _, _, _⟩) rfl (fun K hK => ?_) Zeach.nil
      go_simp
      refine hK.out _ _ (by first | exact HKS.out _ bd0 | exact HKS.out _ (bal bd0 _) | exact HKS.out _ B1.out | exact HKS.out _ (bal B1.out _) | exact y2) (fun hHeld => ?_)
      clear hK K
      try simp only [Act.put, List.setIfInBounds_toArray, List.set_cons_zero, List.set_cons_succ]
      refine Zed.ready (rs := [8]) (by kernel_rfl) (by simp) ?_
      refine Zeach.cons (o := ⟨some 36, _, _, _, _, _⟩) rfl (fun K hK => ?_) Zeach.nil
      refine step_append_run (.tmp 34) (.tmp 35) 32 _ _ _ HR1.out rfl rfl (by simp [Act.eval, Act.put]) (by simp [Act.eval, Act.put]) ?_
      refine hK.out _ _ (by first | exact HKS.out _ bd0 | exact HKS.out _ (bal bd0 _) | exact HKS.out _ B1.out | exact HKS.out _ (bal B1.out _) | exact y2) (fun hHeld => ?_)
      clear hK K
      try simp only [Act.put, List.setIfInBounds_toArray, List.set_cons_zero, List.set_cons_succ]
      refine Zed.take (i := 9) (oi := ⟨some 37, _, _, _, _, _⟩) (v := ?_) rfl (by kernel_rfl) (by kernel_rfl) (by kernel_rfl) (by kernel_rfl) (fun _ _ _ h => h) (Or.inl ⟨by rfl, ?_⟩) (by assumption) ?_
      rotate_left
      · intro wS hSw; (try dsimp only at hSw); go_simp; try with_reducible rfl
      try simp only [Act.put, List.setIfInBounds_toArray, List.set_cons_zero, List.set_cons_succ]
      refine Zed.ready (rs := [10]) (by kernel_rfl) (by simp) ?_
      refine Zeach.cons (o := ⟨some 38, _, _, _, _, _⟩) rfl (fun K hK => ?_) Zeach.nil
      go_simp
      refine hK.out _ _ (by first | exact HKS.out _ bd0 | exact HKS.out _ (bal bd0 _) | exact HKS.out _ B1.out | exact HKS.out _ (bal B1.out _) | exact y2) (fun hHeld => ?_)
      clear hK K
      try simp only [Act.put, List.setIfInBounds_toArray, List.set_cons_zero, List.set_cons_succ]
      refine Zed.ready (rs := [11]) (by kernel_rfl) (by simp) ?_
      refine Zeach.cons (o := ⟨some 39, _, _, _, _, _⟩) rfl (fun K hK => ?_) Zeach.nil
      refine step_append_run (.tmp 32) (.tmp 38) 73 _ _ _ HR2.out rfl rfl (by simp [Act.eval, Act.put]) (by simp [Act.eval, Act.put]) ?_
      refine hK.out _ _ (by first | exact HKS.out _ bd0 | exact HKS.out _ (bal bd0 _) | exact HKS.out _ B1.out | exact HKS.out _ (bal B1.out _) | exact y2) (fun hHeld => ?_)
      clear hK K
      try simp only [Act.put, List.setIfInBounds_toArray, List.set_cons_zero, List.set_cons_succ]
      refine Zed.ready (rs := [12]) (by kernel_rfl) (by simp) ?_
      refine Zeach.cons (o := ⟨some 40, _, _, _, _, _⟩) rfl (fun K hK => ?_) Zeach.nil
      go_simp
      refine hK.out _ _ (by first | exact HKS.out _ bd0 | exact HKS.out _ (bal bd0 _) | exact HKS.out _ B1.out | exact HKS.out _ (bal B1.out _) | exact y2) (fun hHeld => ?_)
      clear hK K
      try simp only [Act.put, List.setIfInBounds_toArray, List.set_cons_zero, List.set_cons_succ]
      refine Zed.take (i := 13) (oi := ⟨some 41, _, _, _, _, _⟩) (v := ?_) rfl (by kernel_rfl) (by kernel_rfl) (by kernel_rfl) (by kernel_rfl) (fun _ _ _ h => h) (Or.inl ⟨by rfl, ?_⟩) (by assumption) ?_
      rotate_left
      · intro wS hSw; (try dsimp only at hSw); go_simp; try with_reducible rfl
      try simp only [Act.put, List.setIfInBounds_toArray, List.set_cons_zero, List.set_cons_succ]
      refine Zed.ready (rs := [14]) (by kernel_rfl) (by simp) ?_
      refine Zeach.last (o := ⟨none, _, _, _, _, _⟩) rfl (fun K hK => ?_)
      go_simp
      refine hK.out _ _ ?_
      clear hK K
      try simp only [Act.put, List.setIfInBounds_toArray, List.set_cons_zero, List.set_cons_succ]
      refine Zed.done (by kernel_rfl) ?_ _
      rw [HW2.out]
      go_wp2_with fail
      go_ret2
      exact ⟨by rw [E1.out, E2.out, HM.out]; rfl, by rw [E3.out]; exact HFIN.out _ HMV.out⟩
    · have E1 := Lib.hid (show tkE all B ws.length = 11 from by unfold tkE; rw [if_neg hz, if_neg hfit])
      have E2 := Lib.hid (show tkN all B ws.length = 0 from by unfold tkN; rw [if_neg hz, if_neg hfit])
      have E3 := Lib.hid (show tkB all B ws = B from by unfold tkB; rw [if_neg hz, if_neg hfit])
      have hf1 : decide ((all : Int) - (u : Int) < (r : Int)) = true := decide_eq_true (by omega)
      clear h hL hu ha hx hz hm hr hfit huu l1 l2 hrp HU q1'
      go_enter Try.func33, Try.ntmps33
      go_wp2_with (first | (go_at_call 10; refine (HRO.out _).mono ?_; rintro e w' ⟨rfl, rfl⟩) | fail)
      go_quiet (first | (go_at_call 10; exact HRQ.out _) | (go_at_call 39; exact HUQ.out _))
      go_wp2_with fail
      go_ret2
      exact ⟨by rw [E1.out, E2.out]; rfl, by rw [E3.out]; exact HT.out.drewN _⟩
set_option maxRecDepth 100000 in
set_option maxHeartbeats 8000000 in
theorem rset_any (h : RAr w G g all B) (hL : LenOk B) (hn : B.length ≤ 60000) (k : Int) (hk : (Lit.int .i64 k).wf = true) (A2 : Option Addr) (c2 : Nat) (ws : List Int) (hx : Reads w w.heap.size 1 A2 ws.length (wds ws)) (hl : ws.length ≤ 65536) :
    Calls Try.prog 36 #[.pointer (some ⟨g, 0, none⟩), .int .i64 k, .slice A2 ws.length c2] w fun e w' => e = .returned (.int .i64 (stE B k ws.length)) ∧ RMoved w G g all (stB B k ws) w' := by
  have HT := Lib.hid (RMoved.stay h)
  have HAT := Lib.hid (rat_any h k hk (by omega))
  cases hb : bAt B k with
  | none =>
    have E1 := Lib.hid (show stE B k ws.length = 6 from by unfold stE; rw [hb])
    have E2 := Lib.hid (show stB B k ws = B from by unfold stB; rw [hb])
    have e3 : atI B k = -1 := by unfold atI; rw [hb]; rfl
    rw [e3] at HAT
    clear h hb hk e3 hx
    go_enter Try.func36, Try.ntmps36
    go_wp2_with (first | (go_at_call 48; refine HAT.out.mono ?_; rintro e w' ⟨rfl, rfl⟩) | fail)
    go_ret
    exact ⟨ret1_i E1.out.symm, by rw [E2.out]; exact HT.out⟩
  | some was =>
    obtain ⟨k1, k2, hgt⟩ := bAt_some hb
    obtain ⟨j, rfl⟩ : ∃ j : Nat, k = (j : Int) + 1 := ⟨(k - 1).toNat, by omega⟩
    have e3 : atI B ((j : Int) + 1) = (j : Int) := by unfold atI; rw [hb]; simp
    have e4 : ((j : Int) + 1 - 1).toNat = j := by omega
    rw [e4] at hgt
    obtain ⟨b0, c, x, y, q1, hb0l, hb0g, hGb, j1, j2, jf1, jf2, hent⟩ := h.spot hgt
    obtain ⟨rfl, A3, c3, rfl, hown3, _⟩ := hent
    obtain ⟨l1, l2⟩ := hL.at_ hb
    rw [e3] at HAT
    have HWF1 := Lib.hid (show (Lit.int .i64 (ws.length : Int)).wf = true from WalkArith.wf_i64 (by omega))
    have HWF2 := Lib.hid (show (Lit.int .i64 (was.length : Int)).wf = true from WalkArith.wf_i64 (by omega))
    obtain ⟨m, hm⟩ : ∃ m, B.length = m := ⟨_, rfl⟩
    have q1' := q1
    rw [hm] at q1
    have hj0 : (0 : Int) ≤ (j : Int) := by omega
    have hjm : (j : Int) < (m : Int) := by omega
    have hjn : ¬ ((j : Int) < 0) := by omega
    by_cases hs : rndI (ws.length : Int) = rndI (was.length : Int)
    · have E1 := Lib.hid (show stE B ((j : Int) + 1) ws.length = 0 from by unfold stE; rw [hb]; exact if_pos hs)
      have E2 := Lib.hid (show stB B ((j : Int) + 1) ws = B.set j (some ws) from by unfold stB; rw [hb]; show (if _ then B.set ((j : Int) + 1 - 1).toNat (some ws) else B) = _; rw [e4]; exact if_pos hs)
      have HH := Lib.hid h
      have HQ := Lib.hid q1'
      have HX := Lib.hid hx
      have HM := Lib.hid hm
      have HJ := Lib.hid (show w.cell? ⟨b0, j * 2, none⟩ = some (.int .i64 ((j : Int) + 1)) ∧ w.cell? ⟨b0, j * 2 + 1, none⟩ = some (.slice A3 was.length c3) ∧ w.frozen? ⟨b0, j * 2 + 1, none⟩ = false from ⟨j1, j2, jf2⟩)
      have hwl : was.length ≤ 16777216 := l2
      clear h hL hx hm hb hk e3 e4 hgt hown3 k1 k2 q1' l1 l2 hGb j1 jf1 jf2
      go_enter Try.func36, Try.ntmps36
      go_wp2_with (first | (go_at_call 48; refine HAT.out.mono ?_; rintro e w' ⟨rfl, rfl⟩) | fail)
      go_quiet (first | (go_at_call 10; exact quiet_left (rround_any _ (by first | exact HWF1.out | exact HWF2.out) _)))
      go_wp2_with fail
      obtain ⟨wv, hwv⟩ : ∃ z, w.drewN nq = z := ⟨_, rfl⟩
      have hH : RAr wv G g all B := by rw [← hwv]; exact HH.out
      have hQ : wv.cell? ⟨g, 1, none⟩ = some (.slice (some ⟨b0, 0, none⟩) B.length c) := by rw [← hwv]; exact HQ.out
      have hxv : Reads wv wv.heap.size 1 A2 ws.length (wds ws) := by rw [← hwv]; exact HX.out
      have hb0v : b0 < wv.heap.size := by rw [← hwv]; exact hb0l
      obtain ⟨v1, v2, v3⟩ := HJ.out
      have v1 : wv.cell? ⟨b0, j * 2, none⟩ = some (.int .i64 ((j : Int) + 1)) := by rw [← hwv]; exact v1
      have v2 : wv.cell? ⟨b0, j * 2 + 1, none⟩ = some (.slice A3 was.length c3) := by rw [← hwv]; exact v2
      have v3 : wv.frozen? ⟨b0, j * 2 + 1, none⟩ = false := by rw [← hwv]; exact v3
      obtain ⟨A1, c1, w1, run1, o1, b1⟩ := app_lit wv A2 c2 ws.length (wds ws) hxv (wds_one ws) (by omega)
      have hmv := hH.put (o := some ws) (x := .int .i64 ((j : Int) + 1)) (y := .slice A1 ws.length c1) (j := j) hQ (by rw [HM.out]; omega) b1 ⟨rfl, A1, c1, rfl, ownsRow_base o1 (fun r _ => Nat.zero_le r), fun r hr => .inr (o1.lt r hr).1⟩ (fun r hr => (o1.lt r hr).2)
      have u1 : w1.cell? ⟨b0, j * 2, none⟩ = some (.int .i64 ((j : Int) + 1)) := (b1.cell (p := ⟨b0, j * 2, none⟩) hb0v).trans v1
      have u2 : w1.cell? ⟨b0, j * 2 + 1, none⟩ = some (.slice A3 was.length c3) := (b1.cell (p := ⟨b0, j * 2 + 1, none⟩) hb0v).trans v2
      have u3 : w1.frozen? ⟨b0, j * 2 + 1, none⟩ = false := (World.frozen?_of_block (w := wv) (b1.block b0 hb0v)).trans v3
      rw [own_self (ownsRow_below (hH.two hQ).choose_spec.2.1 b1 (fun r hr => ((hH.two hQ).choose_spec.2.1.lt r hr).2)) u1] at hmv
      rw [HM.out] at hQ
      have HFIN := Lib.hid (show ∀ W', RMoved wv G g all (B.set j (some ws)) W' → RMoved w G g all (B.set j (some ws)) W' from fun W' h' => by rw [← hwv] at h'; exact h'.undrewN)
      have HKS := Lib.hid (show ∀ wx, Below wv.heap.size wv wx → wx.cell? ⟨g, 1, none⟩ = some (.slice (some ⟨b0, 0, none⟩) m c) from fun wx hb => (hb.cell (p := ⟨g, 1, none⟩) (World.block_lt_of_cell? _ _ hQ)).trans hQ)
      have bd0 : Below wv.heap.size wv wv.drew := below_drew (Below.refl _ _)
      obtain ⟨W2, hW2⟩ : ∃ z, w1.setCell ⟨b0, j * 2 + 1, none⟩ (.slice A1 ws.length c1) = z := ⟨_, rfl⟩
      rw [hW2] at hmv
      have HR1 := Lib.hid run1
      have B1 := Lib.hid b1
      have HW2 := Lib.hid hW2
      have HMV := Lib.hid hmv
      rw [hwv]
      clear hH hxv run1 o1 b1 hmv hW2 hwv q1 hQ v1 v2 v3 u1
      refine Zed.begin (S := fun wx => wx.cell? ⟨g, 1, none⟩ = some (.slice (some ⟨b0, 0, none⟩) m c)) (z := 10) (by kernel_rfl) (HKS.out _ bd0) (fun hHeld => ?_)
      refine Zed.take (i := 0) (oi := ⟨some 27, _, _, _, _, _⟩) (v := ?_) rfl (by kernel_rfl) (by kernel_rfl) (by kernel_rfl) (by kernel_rfl) (fun _ _ _ h => h) (Or.inl ⟨by rfl, ?_⟩) (by assumption) ?_
      rotate_left
      · intro wS hSw; (try dsimp only at hSw); go_simp; try with_reducible rfl
      try simp only [Act.put, List.setIfInBounds_toArray, List.set_cons_zero, List.set_cons_succ]
      refine Zed.take (i := 1) (oi := ⟨some 28, _, _, _, _, _⟩) (v := ?_) rfl (by kernel_rfl) (by kernel_rfl) (by kernel_rfl) (by kernel_rfl) (fun _ _ _ h => h) (Or.inl ⟨by rfl, ?_⟩) (by assumption) ?_
      rotate_left
      · intro wS hSw; (try dsimp only at hSw); go_simp; try with_reducible rfl
      try simp only [Act.put, List.setIfInBounds_toArray, List.set_cons_zero, List.set_cons_succ]
      refine Zed.take (i := 2) (oi := ⟨some 29, _, _, _, _, _⟩) (v := ?_) rfl (by kernel_rfl) (by kernel_rfl) (by kernel_rfl) (by kernel_rfl) (fun _ _ _ h => h) (Or.inl ⟨by rfl, ?_⟩) (by assumption) ?_
      rotate_left
      · intro wS hSw; (try dsimp only at hSw); go_simp; try with_reducible rfl
      try simp only [Act.put, List.setIfInBounds_toArray, List.set_cons_zero, List.set_cons_succ]
      refine Zed.take (i := 3) (oi := ⟨some 30, _, _, _, _, _⟩) (v := ?_) rfl (by kernel_rfl) (by kernel_rfl) (by kernel_rfl) (by kernel_rfl) (fun _ _ _ h => h) (Or.inl ⟨by rfl, ?_⟩) (by assumption) ?_
      rotate_left
      · intro wS hSw; (try dsimp only at hSw); go_simp; try with_reducible rfl
      try simp only [Act.put, List.setIfInBounds_toArray, List.set_cons_zero, List.set_cons_succ]
      refine Zed.take (i := 4) (oi := ⟨some 31, _, _, _, _, _⟩) (v := ?_) rfl (by kernel_rfl) (by kernel_rfl) (by kernel_rfl) (by kernel_rfl) (fun _ _ _ h => h) (Or.inl ⟨by rfl, ?_⟩) (by assumption) ?_
      rotate_left
      · intro wS hSw; (try dsimp only at hSw); go_simp; try with_reducible rfl
      try simp only [Act.put, List.setIfInBounds_toArray, List.set_cons_zero, List.set_cons_succ]
      refine Zed.take (i := 6) (oi := ⟨some 33, _, _, _, _, _⟩) (v := ?_) rfl (by kernel_rfl) (by kernel_rfl) (by kernel_rfl) (by kernel_rfl) (fun _ _ _ h => h) (Or.inl ⟨by rfl, ?_⟩) (by assumption) ?_
      rotate_left
      · intro wS hSw; (try dsimp only at hSw); go_simp; try with_reducible rfl
      try simp only [Act.put, List.setIfInBounds_toArray, List.set_cons_zero, List.set_cons_succ]
      refine Zed.ready (rs := [5]) (by kernel_rfl) (by simp) ?_
      refine Zeach.cons (o := ⟨some 32, _, _, _, _, _⟩) rfl (fun K hK => ?_) Zeach.nil
      go_simp
      refine hK.out _ _ (by first | exact HKS.out _ bd0 | exact HKS.out _ (bal bd0 _) | exact HKS.out _ B1.out) (fun hHeld => ?_)
      clear hK K
      try simp only [Act.put, List.setIfInBounds_toArray, List.set_cons_zero, List.set_cons_succ]
      refine Zed.ready (rs := [7]) (by kernel_rfl) (by simp) ?_
      refine Zeach.cons (o := ⟨some 34, _, _, _, _, _⟩) rfl (fun K hK => ?_) Zeach.nil
      refine step_append_run (.tmp 32) (.tmp 33) 32 _ _ _ HR1.out rfl rfl (by simp [Act.eval, Act.put]) (by simp [Act.eval, Act.put]) ?_
      refine hK.out _ _ (by first | exact HKS.out _ bd0 | exact HKS.out _ (bal bd0 _) | exact HKS.out _ B1.out) (fun hHeld => ?_)
      clear hK K
      try simp only [Act.put, List.setIfInBounds_toArray, List.set_cons_zero, List.set_cons_succ]
      refine Zed.ready (rs := [8]) (by kernel_rfl) (by simp) ?_
      refine Zeach.cons (o := ⟨some 35, _, _, _, _, _⟩) rfl (fun K hK => ?_) Zeach.nil
      go_simp
      refine hK.out _ _ (by first | exact HKS.out _ bd0 | exact HKS.out _ (bal bd0 _) | exact HKS.out _ B1.out) (fun hHeld => ?_)
      clear hK K
      try simp only [Act.put, List.setIfInBounds_toArray, List.set_cons_zero, List.set_cons_succ]
      refine Zed.take (i := 9) (oi := ⟨some 36, _, _, _, _, _⟩) (v := ?_) rfl (by kernel_rfl) (by kernel_rfl) (by kernel_rfl) (by kernel_rfl) (fun _ _ _ h => h) (Or.inl ⟨by rfl, ?_⟩) (by assumption) ?_
      rotate_left
      · intro wS hSw; (try dsimp only at hSw); go_simp; try with_reducible rfl
      try simp only [Act.put, List.setIfInBounds_toArray, List.set_cons_zero, List.set_cons_succ]
      refine Zed.ready (rs := [10]) (by kernel_rfl) (by simp) ?_
      refine Zeach.last (o := ⟨none, _, _, _, _, _⟩) rfl (fun K hK => ?_)
      go_simp
      refine hK.out _ _ ?_
      clear hK K
      try simp only [Act.put, List.setIfInBounds_toArray, List.set_cons_zero, List.set_cons_succ]
      refine Zed.done (by kernel_rfl) ?_ _
      rw [HW2.out]
      go_wp2_with fail
      go_ret
      exact ⟨ret1_i E1.out.symm, by rw [E2.out]; exact HFIN.out _ HMV.out⟩
    · have E1 := Lib.hid (show stE B ((j : Int) + 1) ws.length = 2 from by unfold stE; rw [hb]; exact if_neg hs)
      have E2 := Lib.hid (show stB B ((j : Int) + 1) ws = B from by unfold stB; rw [hb]; exact if_neg hs)
      have hd : (rndI (ws.length : Int) == rndI (was.length : Int)) = false := by simpa using hs
      have hd2 : decide (rndI (ws.length : Int) = rndI (was.length : Int)) = false := decide_eq_false hs
      have hwl : was.length ≤ 16777216 := l2
      clear h hL hx hm hs hb hk e3 e4 hgt hown3 k1 k2 q1' l1 l2 hGb j1 jf1 jf2
      go_enter Try.func36, Try.ntmps36
      go_wp2_with (first | (go_at_call 48; refine HAT.out.mono ?_; rintro e w' ⟨rfl, rfl⟩) | fail)
      go_quiet (first | (go_at_call 10; exact quiet_left (rround_any _ (by first | exact HWF1.out | exact HWF2.out) _)))
      go_wp2_with fail
      go_ret
      exact ⟨ret1_i E1.out.symm, by rw [E2.out]; exact HT.out.drewN _⟩
set_option maxRecDepth 100000 in
set_option maxHeartbeats 8000000 in
theorem rdrop_any (h : RAr w G g all B) (hn : B.length ≤ 60000) (k : Int) (hk : (Lit.int .i64 k).wf = true) :
    Calls Try.prog 37 #[.pointer (some ⟨g, 0, none⟩), .int .i64 k] w fun e w' => e = .returned (.int .i64 (gtE B k)) ∧ RMoved w G g all (dpB B k) w' := by
  have HT := Lib.hid (RMoved.stay h)
  have HAT := Lib.hid (rat_any h k hk (by omega))
  cases hb : bAt B k with
  | none =>
    have E1 := Lib.hid (show gtE B k = 6 from by unfold gtE; rw [hb]; rfl)
    have E2 := Lib.hid (show dpB B k = B from by unfold dpB; rw [hb]; rfl)
    have e3 : atI B k = -1 := by unfold atI; rw [hb]; rfl
    rw [e3] at HAT
    clear h hb hk e3
    go_enter Try.func37, Try.ntmps37
    go_wp2_with (first | (go_at_call 48; refine HAT.out.mono ?_; rintro e w' ⟨rfl, rfl⟩) | fail)
    go_ret
    exact ⟨ret1_i E1.out.symm, by rw [E2.out]; exact HT.out⟩
  | some was =>
    obtain ⟨k1, k2, hgt⟩ := bAt_some hb
    obtain ⟨j, rfl⟩ : ∃ j : Nat, k = (j : Int) + 1 := ⟨(k - 1).toNat, by omega⟩
    have e3 : atI B ((j : Int) + 1) = (j : Int) := by unfold atI; rw [hb]; simp
    have e4 : ((j : Int) + 1 - 1).toNat = j := by omega
    rw [e4] at hgt
    obtain ⟨b0, c, x, y, q1, hb0l, hb0g, hGb, j1, j2, jf1, jf2, hent⟩ := h.spot hgt
    have E1 := Lib.hid (show gtE B ((j : Int) + 1) = 0 from by unfold gtE; rw [hb]; rfl)
    have E2 := Lib.hid (show dpB B ((j : Int) + 1) = B.set j none from by unfold dpB; rw [hb, e4]; rfl)
    rw [e3] at HAT
    have hmv := h.put (o := none) (x := .int .i64 0) (y := .slice none 0 0) (j := j) q1 (by omega) (Below.refl _ _) ⟨rfl, rfl⟩ (fun r hr => by simp [Value.ownBlock] at hr)
    obtain ⟨m, hm⟩ : ∃ m, B.length = m := ⟨_, rfl⟩
    rw [hm] at q1
    have HMV := Lib.hid hmv
    have hj0 : (0 : Int) ≤ (j : Int) := by omega
    have hjm : (j : Int) < (m : Int) := by omega
    have hjn : ¬ ((j : Int) < 0) := by omega
    have jf2' : (w.setCell ⟨b0, j * 2, none⟩ (.int .i64 0)).frozen? ⟨b0, j * 2 + 1, none⟩ = false := by simpa [World.frozen?_setCell] using jf2
    clear h hm hb hk e3 e4 hgt k1 k2 hmv hGb hent
    go_enter Try.func37, Try.ntmps37
    go_wp2_with (first | (go_at_call 48; refine HAT.out.mono ?_; rintro e w' ⟨rfl, rfl⟩) | fail)
    go_ret
    exact ⟨ret1_i E1.out.symm, by rw [E2.out]; exact HMV.out⟩
end
end Go.Proofs.Ytnanacokclcbfaa.Ar
