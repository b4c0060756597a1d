/- What Flatten's walk has in hand: a table of atoms, and a variable whose row grows. flat.none and flat.number, by contracts. What the rounds of Flatten's closure leave in the row, plain. Flatten's closure, by a contract. -/
import Derived.Test.YtnedjmjcbmoknaaAtom7
import Derived.Test.YtnedjmjcbmoknaaFlSpec
import Derived.Test.YtnedjmjcbmoknaaAppendZ
import Derived.Test.YtnedjmjcbmoknaaWord
import Derived.Test.YtnedjmjcbmoknaaSound
import Derived.Laws.EntriesVeiled
namespace Go.Proofs.Ytnedjmjcbmoknaa.Fl
open Go.RowKit K At
set_option linter.unusedVariables false
set_option linter.unusedSimpArgs false
open Go.RowKit K At Wd
def u64s (O : List Int) : List Value := O.map (Value.int .u64)
/-- The table at g has the atoms L, the variable at gO the words O; of the blocks M. -/
def Fs (w : World) (M : Nat → Prop) (B g gO : Nat) (L : List ByteArray) (O : List Int) : Prop :=
  ∃ F v, (B ≤ w.heap.size ∧ ∀ r, v.ownBlock = some r → B ≤ r) ∧ Tab w F g L ∧ Blk w gO 39 #[v] ∧ w.ownsRow 0 31 1 v O.length (u64s O) ∧ (∀ k, F k → M k) ∧ M gO ∧ ¬ F gO ∧ (∀ r, v.ownBlock = some r → M r ∧ ¬ F r) ∧ ∀ k, M k → k < w.heap.size
/-- Behind a step. -/
def FMoved (w : World) (M : Nat → Prop) (B g gO : Nat) (L : List ByteArray) (O : List Int) (w' : World) : Prop :=
  ∃ M', Fs w' M' B g gO L O ∧ (∀ k, M' k → M k ∨ w.heap.size ≤ k) ∧ Keep M w w'
section
variable {w w1 w2 w' : World} {M M' : Nat → Prop} {B g gO : Nat} {L L' : List ByteArray} {O O' : List Int}
theorem FMoved.stay (h : Fs w M B g gO L O) : FMoved w M B g gO L O w := ⟨M, h, fun k hk => .inl hk, Keep.refl _ _⟩
theorem Fs.cell (h : Fs w M B g gO L O) : ∃ A c, w.cell? ⟨gO, 0, none⟩ = some (.slice A O.length c) ∧ w.frozen? ⟨gO, 0, none⟩ = false ∧ w.ownsRow 0 31 1 (.slice A O.length c) O.length (u64s O) ∧ O.length ≤ c ∧ c ≤ maxLen := by
  obtain ⟨F, v, h0, hT, hB, hR, h1, h2, h3, h4, h5⟩ := h
  obtain ⟨A, c, rfl, k1, k2⟩ := ownsRow_form hR
  exact ⟨A, c, by rw [hB.cell]; rfl, hB.frozen 0, hR, k1, k2⟩
theorem Fs.below (h : Fs w M B g gO L O) (hb : Below w.heap.size w w') : Fs w' M B g gO L O := by
  obtain ⟨F, v, h0, hT, hB, hR, h1, h2, h3, h4, h5⟩ := h
  exact ⟨F, v, ⟨Nat.le_trans h0.1 hb.size, h0.2⟩, hT.keep (G := fun _ => False) (Keep.new hb) (fun _ _ h => h), hB.below hb (h5 _ h2), ownsRow_below hR hb (fun r hr => h5 _ (h4 r hr).1), h1, h2, h3, h4, fun k hk => Nat.lt_of_lt_of_le (h5 k hk) hb.size⟩
theorem FMoved.trans (h : FMoved w M B g gO L O w1) (hb : Below w1.heap.size w1 w2) (h' : ∀ M', Fs w2 M' B g gO L O → (∀ k, M' k → M k ∨ w.heap.size ≤ k) → (∀ k, M' k → k < w1.heap.size) → FMoved w2 M' B g gO L' O' w') : FMoved w M B g gO L' O' w' := by
  obtain ⟨M1, hF, hs, hK⟩ := h
  have hF2 := hF.below hb
  have hlt : ∀ k, M1 k → k < w1.heap.size := by
    obtain ⟨F, v, h0, hT, hB, hR, h1, h2, h3, h4, h5⟩ := hF
    exact h5
  obtain ⟨M2, hF3, hs3, hK3⟩ := h' M1 hF2 hs hlt
  refine ⟨M2, hF3, fun k hk => ?_, ?_⟩
  · rcases hs3 k hk with h | h
    · exact hs k h
    · exact .inr (Nat.le_trans hK.size (Nat.le_trans hb.size h))
  · have h12 : Keep M w w2 := hK.trans (Keep.new (F := M) hb) (fun _ _ h => h)
    exact h12.trans hK3 (fun i hi hm => by
      rcases hs i hm with h | h
      · exact h
      · omega)
theorem FMoved.from_ (hb : Below w.heap.size w w1) (h : FMoved w1 M B g gO L O w') : FMoved w M B g gO L O w' := by
  obtain ⟨M1, hF, hs, hK⟩ := h
  refine ⟨M1, hF, fun k hk => ?_, ((Keep.new (F := M) hb)).trans hK (fun i _ h => h)⟩
  rcases hs k hk with h | h
  · exact .inl h
  · exact .inr (Nat.le_trans hb.size h)
/-- The table moves. -/
theorem Fs.tab (h : Fs w M B g gO L O) : ∃ F, Tab w F g L ∧ ∀ L' w', Moved w F g L' w' → FMoved w M B g gO L' O w' := by
  obtain ⟨F, v, h0, hT, hB, hR, h1, h2, h3, h4, h5⟩ := h
  refine ⟨F, hT, fun L' w' hm => ?_⟩
  obtain ⟨F', hT', hs, hK⟩ := hm
  refine ⟨fun k => (M k ∨ w.heap.size ≤ k) ∧ k < w'.heap.size, ⟨F', v, ⟨Nat.le_trans h0.1 hK.size, h0.2⟩, hT', hB.keep hK h3, ownsRow_keep hR hK (fun r hr => (h4 r hr).2), fun k hk => ?_, ?_, ?_, ?_, fun k hk => hk.2⟩, fun k hk => hk.1, hK.mono (fun i _ hf => h1 i hf)⟩
  · refine ⟨?_, ?_⟩
    · rcases hs k hk with h | h
      · exact .inl (h1 k h)
      · exact .inr h
    · obtain ⟨bm, v, D, fl, _⟩ := hT'
      exact fl k hk
  · exact ⟨.inl h2, Nat.lt_of_lt_of_le (h5 _ h2) hK.size⟩
  · intro hk
    rcases hs _ hk with h | h
    · exact h3 h
    · have := h5 _ h2; omega
  · intro r hr
    have := h5 _ (h4 r hr).1
    refine ⟨⟨.inl (h4 r hr).1, Nat.lt_of_lt_of_le this hK.size⟩, fun hk => ?_⟩
    rcases hs _ hk with h | h
    · exact (h4 r hr).2 h
    · omega
/-- The row grows, and the variable holds it. -/
theorem Fs.push (h : Fs w M B g gO L O) {A A' : Option Addr} {c c' n : Nat} (hc : w.cell? ⟨gO, 0, none⟩ = some (.slice A O.length c)) (hb : Below w.heap.size w w1) (hg : w1.grownBy w2 (Value.slice A O.length c).ownBlock) (hR' : w2.ownsRow 0 31 1 (.slice A' n c') n (u64s O'))
    (hat : (Value.slice A' n c').ownBlock = (Value.slice A O.length c).ownBlock ∨ (Value.slice A' n c').ownBlock = some w1.heap.size) : FMoved w M B g gO L O' (w2.setCell ⟨gO, 0, none⟩ (.slice A' n c')) := by
  have hn : n = O'.length := by have := hR'.1; simp [u64s] at this; omega
  subst hn
  obtain ⟨F, v, h0, hT, hB, hR, h1, h2, h3, h4, h5⟩ := h
  have hv : v = .slice A O.length c := by
    have := hB.cell 0
    rw [hc] at this
    simpa using this.symm
  subst hv
  have hB1 := hB.below hb hB.lt
  have hR1 := ownsRow_below hR hb (fun r hr => h5 _ (h4 r hr).1)
  have hT1 := hT.keep (G := fun _ => False) (Keep.new hb) (fun _ _ h => h)
  have hne1 : (Value.slice A O.length c).ownBlock ≠ some gO := own_blk_ne hR hB (by decide)
  have hB2 := hB1.grown hg (fun e => hne1 e.symm)
  have hne : (Value.slice A' O'.length c').ownBlock ≠ some gO := own_blk_ne hR' hB2 (by decide)
  have hK2 : Keep M w w2 := (Keep.new (F := M) hb).grown hg (fun k hk => .inl (h4 k hk).1)
  have hz := hg.size
  have hzb := hb.size
  refine ⟨fun k => (M k ∨ w.heap.size ≤ k) ∧ k < (w2.setCell ⟨gO, 0, none⟩ (.slice A' O'.length c')).heap.size, ⟨F, .slice A' O'.length c', ⟨by have := h0.1; simp [World.setCell]; omega, fun r hr => by
    rcases hat with e | e
    · rw [e] at hr; exact h0.2 r hr
    · rw [e] at hr; injection hr with hr; have := h0.1; omega⟩, ?_, by simpa using hB2.set_ 0 (.slice A' O'.length c'), ownsRow_setCell_other hR' (a := ⟨gO, 0, none⟩) hne _, fun k hk => ?_, ?_, h3, ?_, fun k hk => hk.2⟩, fun k hk => hk.1, hK2.setCell (.inl h2) _⟩
  · have hT2 : Tab w2 F g L := hT1.grown hg (fun r hr => (h4 r hr).2)
    exact hT2.keep (G := fun b => b = gO) ((Keep.refl (fun b => b = gO) w2).setCell (p := ⟨gO, 0, none⟩) (.inl rfl) _) (fun r hr e => h3 (e ▸ hr))
  · refine ⟨.inl (h1 k hk), ?_⟩
    have := h5 _ (h1 k hk)
    simp [World.setCell]; omega
  · refine ⟨.inl h2, ?_⟩
    have := h5 _ h2
    simp [World.setCell]; omega
  · intro r hr
    have hr2 := (hR'.lt r hr).2
    rcases hat with e | e
    · rw [e] at hr
      exact ⟨⟨.inl (h4 r hr).1, by simpa [World.setCell] using hr2⟩, (h4 r hr).2⟩
    · rw [e] at hr
      injection hr with hr
      subst hr
      refine ⟨⟨.inr hzb, by simpa [World.setCell] using hr2⟩, fun hf => ?_⟩
      have := h5 _ (h1 _ hf)
      omega
/-- The variable's cell once the row has grown. -/
theorem Fs.held (h : Fs w M B g gO L O) {A : Option Addr} {c : Nat} (hc : w.cell? ⟨gO, 0, none⟩ = some (.slice A O.length c)) (hb : Below w.heap.size w w1) (hg : w1.grownBy w2 (Value.slice A O.length c).ownBlock) : w2.cell? ⟨gO, 0, none⟩ = some (.slice A O.length c) ∧ w2.frozen? ⟨gO, 0, none⟩ = false := by
  obtain ⟨F, v, h0, hT, hB, hR, h1, h2, h3, h4, h5⟩ := h
  have hv : v = .slice A O.length c := by
    have := hB.cell 0
    rw [hc] at this
    simpa using this.symm
  subst hv
  have hne1 : (Value.slice A O.length c).ownBlock ≠ some gO := own_blk_ne hR hB (by decide)
  have hB2 := (hB.below hb hB.lt).grown hg (fun e => hne1 e.symm)
  exact ⟨by rw [hB2.cell]; rfl, hB2.frozen 0⟩
/-- A word is put into the row. -/
theorem Fs.store (h : Fs w M B g gO L O) {i : Nat} (hi : i < O.length) : ∃ r c, w.cell? ⟨gO, 0, none⟩ = some (.slice (some ⟨r, 0, none⟩) O.length c) ∧ O.length ≤ c ∧ c ≤ maxLen ∧ (∃ x, w.cell? ⟨r, i, none⟩ = some x) ∧ w.frozen? ⟨r, i, none⟩ = false ∧
    ∀ y, FMoved w M B g gO L (O.set i y) (w.setCell ⟨r, i, none⟩ (.int .u64 y)) := by
  obtain ⟨F, v, h0, hT, hB, hR, h1, h2, h3, h4, h5⟩ := h
  obtain ⟨r, c, rfl, k1, k2, k3, k4, k5⟩ := ownsRow_at hR hi
  have hne : r ≠ gO := fun e => own_blk_ne hR hB (by decide) (by rw [e]; rfl)
  refine ⟨r, c, by rw [hB.cell]; rfl, k1, k2, ⟨_, k5 i (.int .u64 O[i]) (by simp [u64s, hi])⟩, hR.frozenAt i, fun y => ?_⟩
  obtain ⟨q1, q2⟩ := hR.stored i (.int .u64 y)
  have hl : (O.set i y).length = O.length := List.length_set
  have hq := (h4 r rfl)
  refine ⟨M, ⟨F, .slice (some ⟨r, 0, none⟩) O.length c, ⟨Nat.le_trans h0.1 q2.size, h0.2⟩, hT.grown q2 (fun k hk => ?_), hB.grown q2 (fun e => hne (by injection e with e; exact e.symm)), ?_, h1, h2, h3, h4, fun k hk => Nat.lt_of_lt_of_le (h5 k hk) q2.size⟩, fun k hk => .inl hk, (Keep.refl M w).setCell (.inl hq.1) _⟩
  · injection hk with hk
    subst hk
    exact hq.2
  · rw [hl]
    unfold u64s at q1 ⊢
    rwa [List.map_set]
end
/-- The closure's variables. -/
def FVars (w : World) (M : Nat → Prop) (B g gO gA gL : Nat) : Prop :=
  w.cell? ⟨gA, 0, none⟩ = some (.pointer (some ⟨g, 0, none⟩)) ∧ w.cell? ⟨gL, 0, none⟩ = some (.func (.func 52) #[] #[.pointer (some ⟨gO, 0, none⟩), .pointer (some ⟨gA, 0, none⟩), .pointer (some ⟨gL, 0, none⟩)]) ∧ ¬ M gA ∧ ¬ M gL
theorem FVars.keep {w w' : World} {M M' : Nat → Prop} {B g gO gA gL : Nat} (h : FVars w M B g gO gA gL) (hk : Keep M w w') (hs : ∀ k, M' k → M k ∨ w.heap.size ≤ k) : FVars w' M' B g gO gA gL := by
  obtain ⟨a, b, c, d⟩ := h
  have ha := World.block_lt_of_cell? _ _ a
  have hb := World.block_lt_of_cell? _ _ b
  exact ⟨(hk.cell ha c).trans a, (hk.cell hb d).trans b, fun h => by rcases hs _ h with h | h; exact c h; exact absurd ha (by simp; omega), fun h => by rcases hs _ h with h | h; exact d h; exact absurd hb (by simp; omega)⟩
set_option maxRecDepth 100000 in
set_option maxHeartbeats 4000000 in
theorem none_tab (g : Nat) (L : List ByteArray) (w : World) (F : Nat → Prop) (hT : Tab w F g L) : Calls Try.prog 50 #[.pointer (some ⟨g, 0, none⟩)] w fun e w' => e = .returned (.bool false) ∧ w = w' := by
  have H := Lib.hid (name_no g L (-1) w F hT (.inl (by decide)))
  clear hT
  go_enter Try.func50, Try.ntmps50
  go_wp2_with (first | (go_at_call 42; refine H.out.mono ?_; rintro e w1 ⟨rfl, rfl⟩))
  go_ret
  exact ⟨ret1_b rfl, rfl⟩
set_option maxRecDepth 100000 in
set_option maxHeartbeats 4000000 in
theorem none_no (p : Option Addr) (w : World) (h : NoTab w p) : Calls Try.prog 50 #[.pointer p] w fun e w' => e = .returned (.bool true) ∧ w = w' := by
  have H := Lib.hid (name_none p (-1) w h)
  clear h
  go_enter Try.func50, Try.ntmps50
  go_wp2_with (first | (go_at_call 42; refine H.out.mono ?_; rintro e w1 ⟨rfl, rfl⟩))
  go_ret
  exact ⟨ret1_b rfl, rfl⟩
set_option maxRecDepth 100000 in
set_option maxHeartbeats 4000000 in
theorem number_leaf (p : Value) (k n : Int) (s : ByteArray) (A : Option Addr) (m c : Nat) (w : World) (h2 : k ≠ 2) (h8 : k = 8 → n = 0) :
    Calls Try.prog 53 #[p, .agg #[.int .i64 k, .int .i64 n, .string s, .slice A m c]] w fun e w' => e = .returned (.tuple #[.int .i64 n, .int .i64 0]) ∧ Below w.heap.size w w' := by
  have HB := Lib.hid (fun (o : Obj) => ballocs (Below.refl w.heap.size w) o)
  have b2 : (k == 2) = false := by simpa using h2
  by_cases e8 : k = 8
  · subst e8
    obtain rfl := h8 rfl
    clear h8 h2
    go_enter Try.func53, Try.ntmps53
    go_wp2_with fail
    go_ret2
    exact ⟨ret2_ii rfl rfl, HB.out _⟩
  · have b8 : (k == 8) = false := by simpa using e8
    clear h8 h2 e8
    go_enter Try.func53, Try.ntmps53
    go_wp2_with fail
    go_ret2
    exact ⟨ret2_ii rfl rfl, HB.out _⟩
set_option maxRecDepth 100000 in
set_option maxHeartbeats 4000000 in
theorem number_sym (n : Int) (s : ByteArray) (A : Option Addr) (m c : Nat) (w : World) (M : Nat → Prop) (B g gO : Nat) (L : List ByteArray) (O : List Int) (h : Fs w M B g gO L O) (hs : s.size ≤ 64) :
    Calls Try.prog 53 #[.pointer (some ⟨g, 0, none⟩), .agg #[.int .i64 2, .int .i64 n, .string s, .slice A m c]] w fun e w' => e = .returned (.tuple #[.int .i64 (inN L s), .int .i64 (inE L s)]) ∧ FMoved w M B g gO (inL L s) O w' := by
  have HI := Lib.hid (show Calls Try.prog 62 #[.pointer (some ⟨g, 0, none⟩), .string s] (w.alloc (.cells #[.int .i64 2, .int .i64 n, .string s, .slice A m c] 28)) (fun e w' => e = .returned (.tuple #[.int .i64 (inN L s), .int .i64 (inE L s)]) ∧ FMoved w M B g gO (inL L s) O w') from by
    have hb := ballocs (Below.refl w.heap.size w) (.cells #[.int .i64 2, .int .i64 n, .string s, .slice A m c] 28)
    obtain ⟨F, hT, hM⟩ := (h.below hb).tab
    refine (intern_any g L s _ F hT (by unfold maxLen; omega)).mono ?_
    rintro e w' ⟨rfl, hm⟩
    exact ⟨rfl, (hM _ _ hm).from_ hb⟩)
  clear h
  go_enter Try.func53, Try.ntmps53
  go_wp2_with (first | (go_at_call 62; refine HI.out.mono ?_; rintro e w1 ⟨rfl, hm⟩))
  go_ret2
  exact ⟨ret2_ii rfl rfl, hm⟩
/-- The row with the first i parts laid. -/
def mid (f : ByteArray → Int) (O : List Int) (k n : Int) (l : List Tm) (i : Nat) : List Int :=
  (O ++ hd k n l.length ++ (layP f (l.take i) (O.length + (hd k n l.length).length + l.length)).1) ++ (List.replicate (l.length - i) 0 ++ (layP f (l.take i) (O.length + (hd k n l.length).length + l.length)).2)
theorem mid_zero (f : ByteArray → Int) (O : List Int) (k n : Int) (l : List Tm) : mid f O k n l 0 = (O ++ hd k n l.length) ++ List.replicate l.length 0 := by
  unfold mid
  rw [List.take_zero, layP_nil]
  simp
theorem mid_len (f : ByteArray → Int) (O : List Int) (k n : Int) (l : List Tm) {i : Nat} (hi : i ≤ l.length) : (mid f O k n l i).length = O.length + (hd k n l.length).length + l.length + (layP f (l.take i) (O.length + (hd k n l.length).length + l.length)).2.length := by
  unfold mid
  simp only [List.length_append, List.length_replicate, layP_len1, List.length_take]
  omega
theorem set_mid (X R : List Int) (y z : Int) : (X ++ (y :: R)).set X.length z = X ++ (z :: R) := by
  rw [List.set_append_right _ _ (Nat.le_refl _)]
  simp
theorem mid_step {f f' : ByteArray → Int} (O : List Int) (k n : Int) {l : List Tm} {i : Nat} {u : Tm} (hu : l[i]? = some u) (hf : ∀ s ∈ atomsL (l.take i), f s = f' s) :
    (mid f O k n l i ++ lay f' u (mid f O k n l i).length).set (O.length + (hd k n l.length).length + i) (ownW f' u (mid f O k n l i).length) = mid f' O k n l (i + 1) := by
  have hi := (List.getElem?_eq_some_iff.1 hu).1
  rw [mid_len f O k n l (by omega)]
  unfold mid
  have hc := layP_congr (l.take i) hf (O.length + (hd k n l.length).length + l.length)
  rw [hc, layP_snoc f' _ hu]
  obtain ⟨m, hm⟩ : ∃ m, l.length - i = m + 1 := ⟨l.length - i - 1, by omega⟩
  have hm2 : l.length - (i + 1) = m := by omega
  rw [hm, hm2]
  have hX : (O ++ hd k n l.length ++ (layP f' (l.take i) (O.length + (hd k n l.length).length + l.length)).1).length = O.length + (hd k n l.length).length + i := by
    simp only [List.length_append, layP_len1, List.length_take]
    omega
  have key : ∀ (X R Z : List Int) (y z : Int), (X ++ (y :: R) ++ Z).set X.length z = X ++ (z :: (R ++ Z)) := fun X R Z y z => by rw [List.append_assoc, List.cons_append, set_mid]
  rw [← hX, List.replicate_succ, List.cons_append, key]
  simp only [List.append_assoc, List.cons_append, List.nil_append]
theorem mid_end (f : ByteArray → Int) (O : List Int) (k n : Int) (s : ByteArray) (l : List Tm) (hb : boxK k) : mid f O k n l l.length = O ++ lay f (.mk k n s l) O.length := by
  unfold mid
  rw [lay_mk, if_pos hb, List.take_length]
  simp
theorem wdsL_len (l : List Tm) : (l.length : Int) ≤ wdsL l := by
  induction l with
  | nil => rw [wdsL_nil]; simp
  | cons u r ih => rw [wdsL_cons]; have := (wds_range u).1; simp; omega
theorem layP_len2 (f : ByteArray → Int) (l : List Tm) : ∀ p, ((layP f l p).2.length : Int) + l.length = wdsL l := by
  induction l with
  | nil => intro p; rw [layP_nil, wdsL_nil]; rfl
  | cons u r ih =>
    intro p
    rw [layP_cons, wdsL_cons]
    have h1 := lay_len f u p
    have h2 := ih (p + (lay f u p).length)
    simp only [List.length_append, List.length_cons]
    omega
theorem mid_bound (f : ByteArray → Int) (O : List Int) (k n : Int) (s : ByteArray) {l : List Tm} {i : Nat} {u : Tm} (hb : boxK k) (hu : l[i]? = some u) : ((mid f O k n l i).length : Int) + wds u ≤ O.length + wds (.mk k n s l) := by
  have hi := (List.getElem?_eq_some_iff.1 hu).1
  rw [mid_len f O k n l (by omega)]
  have h1 := layP_len2 f (l.take i) (O.length + (hd k n l.length).length + l.length)
  have h2 : wdsL l = wdsL (l.take (i + 1)) + wdsL (l.drop (i + 1)) := by rw [← wdsL_append, List.take_append_drop]
  rw [wdsL_take_succ hu] at h2
  have h3 := wdsL_len (l.drop (i + 1))
  rw [List.length_drop] at h3
  have h4 := hd_len k n l.length
  rw [List.length_take] at h1
  rw [wds_mk, if_pos ((boxK_has (.mk k n s l)).2 hb)]
  have h5 : ownN (.mk k n s l) = (if k = 7 ∨ k = 5 then 1 else 0) + 1 := by
    by_cases hk : k = 7 ∨ k = 5
    · rw [if_pos hk]; unfold ownN; rw [if_pos (show (Tm.mk k n s l).k = 7 ∨ (Tm.mk k n s l).k = 5 from hk)]; rfl
    · rw [if_neg hk]; unfold ownN; rw [if_neg (show ¬((Tm.mk k n s l).k = 7 ∨ (Tm.mk k n s l).k = 5) from hk)]; rfl
  omega
theorem sound_leaf {k n : Int} {s : ByteArray} {l : List Tm} (hs : soundB (.mk k n s l) = true) (h2 : k ≠ 2) (hb : ¬ boxK k) : l = [] ∧ s.size = 0 := by
  unfold boxK at hb
  by_cases h1 : k = 1
  · subst h1; have h := (soundB_1 n s l).1 hs; exact ⟨List.eq_nil_of_length_eq_zero h.2.2.2, h.2.2.1⟩
  by_cases h3 : k = 3
  · subst h3; have h := (soundB_3 n s l).1 hs; exact ⟨List.eq_nil_of_length_eq_zero h.2.2.2, h.2.2.1⟩
  by_cases h4 : k = 4
  · subst h4; have h := (soundB_4 n s l).1 hs; exact ⟨List.eq_nil_of_length_eq_zero h.2.2.2, h.2.2.1⟩
  by_cases h6 : k = 6
  · subst h6; have h := (soundB_6 n s l).1 hs; exact ⟨List.eq_nil_of_length_eq_zero h.2.2.2, h.2.2.1⟩
  by_cases h8 : k = 8
  · subst h8; have h := (soundB_8 n s l).1 hs; exact ⟨List.eq_nil_of_length_eq_zero h.2.2, h.2.1⟩
  · rw [soundB_no h1 h2 h3 h4 (by omega) h6 (by omega) h8 (by omega)] at hs
    cases hs
theorem fbelow {w w1 w2 : World} (h : Below w.heap.size w w1) (h' : Below w1.heap.size w1 w2) : Below w.heap.size w w2 := h.trans (h'.mono h.size)
theorem ret2_wi {a b a' b' : Int} (h : a = b) (h' : a' = b') : Ending.returned (.tuple #[.int .u64 a, .int .i64 a']) = .returned (.tuple #[.int .u64 b, .int .i64 b']) := by rw [h, h']
theorem fdrewN {w w' : World} (h : Below w.heap.size w w') (n : Nat) : Below w.heap.size w (w'.drewN n) := ⟨h.os, h.tape, h.output, h.size, h.block⟩
def LayPost (w : World) (M : Nat → Prop) (B g gO : Nat) (t : Tm) (L : List ByteArray) (O : List Int) (e : Ending) (w' : World) : Prop :=
  ((nums t L).1 = true ∧ e = .returned (.tuple #[.int .u64 (ownW (ix (nums t L).2) t O.length), .int .i64 0]) ∧ FMoved w M B g gO (nums t L).2 (O ++ lay (ix (nums t L).2) t O.length) w') ∨
  ((nums t L).1 = false ∧ ∃ (y : Int) (O' : List Int), e = .returned (.tuple #[.int .u64 0, .int .i64 y]) ∧ (y == 0) = false ∧ FMoved w M B g gO (nums t L).2 O' w')
def LayC (t : Tm) : Prop := ∀ (v : Value) (w : World) (M G : Nat → Prop) (B g gO gA gL : Nat) (L : List ByteArray) (O : List Int), Fs w M B g gO L O → TAt w G t v → (∀ b, G b → b < w.heap.size ∧ ¬ M b) → FVars w M B g gO gA gL → sndL (subs t) = true → (O.length : Int) + wds t ≤ 65537 →
  Calls Try.prog 52 #[v, .pointer (some ⟨gO, 0, none⟩), .pointer (some ⟨gA, 0, none⟩), .pointer (some ⟨gL, 0, none⟩)] w (LayPost w M B g gO t L O)
set_option maxRecDepth 100000 in
set_option maxHeartbeats 8000000 in
theorem lay_leaf (k n : Int) (s : ByteArray) (l : List Tm) (A : Option Addr) (c : Nat) (hw : (Lit.int .i64 k).wf = true ∧ (Lit.int .i64 n).wf = true) (w : World) (M : Nat → Prop) (B g gO gA gL : Nat) (L : List ByteArray) (O : List Int) (hF : Fs w M B g gO L O) (hv : FVars w M B g gO gA gL) (hO : O.length ≤ 65537) (hs : soundB (.mk k n s l) = true) (h2 : k ≠ 2) (hb : ¬ boxK k) :
    Calls Try.prog 52 #[.agg #[.int .i64 k, .int .i64 n, .string s, .slice A l.length c], .pointer (some ⟨gO, 0, none⟩), .pointer (some ⟨gA, 0, none⟩), .pointer (some ⟨gL, 0, none⟩)] w (LayPost w M B g gO (.mk k n s l) L O) := by
  have h8 : k = 8 → n = 0 := fun e => by subst e; exact ((soundB_8 n s l).1 hs).1
  have b7 : (k == 7) = false := by unfold boxK at hb; simp; omega
  have b5 : (k == 5) = false := by unfold boxK at hb; simp; omega
  have b9 : (k == 9) = false := by unfold boxK at hb; simp; omega
  have HE := Lib.hid (show nums (.mk k n s l) L = (true, L) ∧ ownW (ix L) (.mk k n s l) O.length = packW k n ∧ lay (ix L) (.mk k n s l) O.length = [] from by
    obtain rfl : l = [] := (sound_leaf hs h2 hb).1
    refine ⟨by rw [nums_mk, if_neg h2, numsL_nil], by rw [ownW_mk, if_neg h2, if_neg hb], by rw [lay_mk, if_neg hb]⟩)
  have HN := Lib.hid (fun (w : World) => number_leaf (.pointer (some ⟨g, 0, none⟩)) k n s A l.length c w h2 h8)
  have HP := Lib.hid (fun (w : World) => pack_any k n hw.1 hw.2 w)
  have hB := Blk.new w 28 #[.int .i64 k, .int .i64 n, .string s, .slice A l.length c]
  have hb0 := ballocs (Below.refl w.heap.size w) (.cells #[.int .i64 k, .int .i64 n, .string s, .slice A l.length c] 28)
  have HF := Lib.hid hF
  have hF0 := hF.below hb0
  obtain ⟨v1, v2, _, _⟩ := hv.keep (M' := M) (Keep.new (F := M) hb0) (fun k h => .inl h)
  have HB0 := Lib.hid hb0
  clear hF hs h8 hw hb h2 hb0 hv
  go_enter Try.func52, Try.ntmps52
  go_wp2_with fail
  obtain ⟨w0, hw0⟩ : ∃ x, w.alloc (.cells #[.int .i64 k, .int .i64 n, .string s, .slice A l.length c] 28) = x := ⟨_, rfl⟩
  rw [hw0] at hB HB0 hF0 v1 v2 ⊢
  obtain ⟨A0, c0, hc, _, _, hca, hcm⟩ := hF0.cell
  obtain ⟨p0, p1, p2, p3, _, _, _, _⟩ := hB.four
  have HF0 := Lib.hid hF0
  clear hw0 hF0 hcm hca hB
  go_quiet (fail)
  go_wp2_with (first
    | (go_at_call 53; refine (HN.out _).mono ?_; rintro e w1 ⟨rfl, hb1⟩; have q0 := (hb1.cell (p := ⟨w.heap.size, 0, none⟩) (World.block_lt_of_cell? _ _ p0)).trans p0)
    | (go_at_call 36; refine (HP.out _).mono ?_; rintro e w2 ⟨rfl, hb2⟩))
  go_ret2
  obtain ⟨e1, e2, e3⟩ := HE.out
  refine .inl ?_
  rw [e1]
  refine ⟨rfl, ?_, ?_⟩
  · rw [e2]; exact ret2_wi rfl rfl
  · rw [e3, List.append_nil]
    exact (FMoved.stay HF.out).trans (fbelow HB0.out (bundrewN (hb1.trans (hb2.mono hb1.size)))) (fun M' h _ _ => FMoved.stay h)
set_option maxRecDepth 100000 in
set_option maxHeartbeats 8000000 in
theorem lay_sym (s : ByteArray) (A : Option Addr) (c : Nat) (w : World) (M : Nat → Prop) (B g gO gA gL : Nat) (L : List ByteArray) (O : List Int) (hF : Fs w M B g gO L O) (hv : FVars w M B g gO gA gL) (hO : O.length ≤ 65537) (hs : soundB (.mk 2 0 s []) = true) :
    Calls Try.prog 52 #[.agg #[.int .i64 2, .int .i64 0, .string s, .slice A 0 c], .pointer (some ⟨gO, 0, none⟩), .pointer (some ⟨gA, 0, none⟩), .pointer (some ⟨gL, 0, none⟩)] w (LayPost w M B g gO (.mk 2 0 s []) L O) := by
  obtain ⟨_, h64, _⟩ := (soundB_2 0 s []).1 hs
  have HE := Lib.hid (show nums (.mk 2 0 s []) L = (decide (inE L s = 0), inL L s) ∧ (∀ f, lay f (.mk 2 0 s []) O.length = []) from ⟨by rw [nums_mk, if_pos rfl], fun f => by rw [lay_mk, if_neg (by decide)]⟩)
  have HN := Lib.hid (fun (w : World) (h : Fs w M B g gO L O) => number_sym 0 s A 0 c w M B g gO L O h h64)
  have hB := Blk.new w 28 #[.int .i64 2, .int .i64 0, .string s, .slice A 0 c]
  have hb0 := ballocs (Below.refl w.heap.size w) (.cells #[.int .i64 2, .int .i64 0, .string s, .slice A 0 c] 28)
  have HF := Lib.hid hF
  have hF0 := hF.below hb0
  obtain ⟨v1, v2, _, _⟩ := hv.keep (M' := M) (Keep.new (F := M) hb0) (fun k h => .inl h)
  have HB0 := Lib.hid hb0
  have hM : ¬ M w.heap.size := fun h => by
    obtain ⟨F, v, _, _, _, _, _, _, _, _, h5⟩ := hF
    have := h5 _ h; omega
  have HM := Lib.hid hM
  have hiN : 0 ≤ inN L s ∧ inN L s ≤ 4096 ∧ (inE L s = 0 ∨ (inE L s == 0) = false) := by
    obtain ⟨F, v, _, hT, _⟩ := hF
    obtain ⟨bm, v, D, fl, fg, fm, fv, hB, hM, hD, hR, hnd, hsz, hl4, hby⟩ := hT
    have := idx_le L s
    refine ⟨?_, ?_, ?_⟩
    · unfold inN; repeat' split
      all_goals omega
    · unfold inN; repeat' split
      all_goals omega
    · by_cases h : inE L s = 0
      · exact .inl h
      · exact .inr (by simpa using h)
  obtain ⟨i1, i2, i3⟩ := hiN
  have HP := Lib.hid (fun (w : World) => pack_any 2 (inN L s) (by decide) (WalkArith.wf_i64 (by omega)) w)
  clear hF hs hb0 hv h64 hM
  rcases i3 with i3 | i3
  · have HI3 := Lib.hid i3
    have b3 : (inE L s == 0) = true := by rw [i3]; rfl
    clear i3
    go_enter Try.func52, Try.ntmps52
    go_wp2_with fail
    obtain ⟨w0, hw0⟩ : ∃ x, w.alloc (.cells #[.int .i64 2, .int .i64 0, .string s, .slice A 0 c] 28) = x := ⟨_, rfl⟩
    rw [hw0] at hB HB0 hF0 v1 v2 ⊢
    obtain ⟨A0, c0, hc, _, _, hca, hcm⟩ := hF0.cell
    obtain ⟨p0, p1, p2, p3, _, _, _, _⟩ := hB.four
    have HF0 := Lib.hid hF0
    clear hw0 hF0 hcm hca hB
    go_quiet (fail)
    go_wp2_with (first
      | (go_at_call 53; refine (HN.out _ (HF0.out.below (bundrewN (Below.refl _ _) : Below w0.heap.size w0 (w0.drewN nq)))).mono ?_; rintro e w1 ⟨rfl, hm1⟩
         have q0 : w1.cell? ⟨w.heap.size, 0, none⟩ = some (.int .i64 2) := by
           obtain ⟨M1, _, _, hk1⟩ := hm1
           exact (hk1.cell (p := ⟨w.heap.size, 0, none⟩) (World.block_lt_of_cell? w0 _ p0) HM.out).trans p0
         have HM1 := Lib.hid hm1; clear hm1)
      | (go_at_call 36; refine (HP.out _).mono ?_; rintro e w2 ⟨rfl, hb2⟩))
    go_ret2
    refine .inl ?_
    rw [HE.out.1]
    refine ⟨by simp [HI3.out], ?_, ?_⟩
    · refine ret2_wi ?_ rfl
      show _ = ownW (ix (inL L s)) (.mk 2 0 s []) O.length
      rw [ownW_mk, if_pos rfl, inN_idx HI3.out]
      rfl
    · rw [HE.out.2, List.append_nil]
      exact (HM1.out.trans hb2 (fun M' h _ _ => FMoved.stay h)).from_ (fdrewN HB0.out nq)
  · have HI3 := Lib.hid i3
    clear HP
    go_enter Try.func52, Try.ntmps52
    go_wp2_with fail
    obtain ⟨w0, hw0⟩ : ∃ x, w.alloc (.cells #[.int .i64 2, .int .i64 0, .string s, .slice A 0 c] 28) = x := ⟨_, rfl⟩
    rw [hw0] at hB HB0 hF0 v1 v2 ⊢
    obtain ⟨A0, c0, hc, _, _, hca, hcm⟩ := hF0.cell
    obtain ⟨p0, p1, p2, p3, _, _, _, _⟩ := hB.four
    have HF0 := Lib.hid hF0
    clear hw0 hF0 hcm hca hB
    go_quiet (fail)
    go_wp2_with (first
      | (go_at_call 53; refine (HN.out _ (HF0.out.below (bundrewN (Below.refl _ _) : Below w0.heap.size w0 (w0.drewN nq)))).mono ?_; rintro e w1 ⟨rfl, hm1⟩
         have q0 : w1.cell? ⟨w.heap.size, 0, none⟩ = some (.int .i64 2) := by
           obtain ⟨M1, _, _, hk1⟩ := hm1
           exact (hk1.cell (p := ⟨w.heap.size, 0, none⟩) (World.block_lt_of_cell? w0 _ p0) HM.out).trans p0
         have HM1 := Lib.hid hm1; clear hm1))
    go_ret2
    refine .inr ?_
    rw [HE.out.1]
    refine ⟨by have := HI3.out; simpa using this, inE L s, O, rfl, HI3.out, ?_⟩
    exact HM1.out.from_ (fdrewN HB0.out nq)
end Go.Proofs.Ytnedjmjcbmoknaa.Fl
