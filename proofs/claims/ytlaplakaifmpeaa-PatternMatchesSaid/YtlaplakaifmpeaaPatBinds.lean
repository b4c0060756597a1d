/- Bindings, as lists and in a block of pattern.binds. Plain facts; pattern.read by its contract. -/
import Derived.Test.YtlaplakaifmpeaaPatBound
namespace Go.Proofs.Ytlaplakaifmpeaa.Pt
open Go.RowKit K Go.Shelf
set_option linter.unusedVariables false
set_option linter.unusedSimpArgs false

abbrev Bnd := Int × Tm
/-- What each variable is bound to. -/
abbrev Bf := Nat → Option Tm
def upd (b : Bf) (n : Nat) (t : Tm) : Bf := fun m => if m = n then some t else b m
def okFrom (last : Int) : List Bnd → Bool
  | [] => true
  | p :: r => (decide (last < p.1) && (decide (p.1 ≤ 99) && mayT p.2)) && okFrom p.1 r
def bfold (l : List Bnd) : Bf := l.foldl (fun b p => upd b p.1.toNat p.2) (fun _ => none)
theorem bfold_snoc (l : List Bnd) (p : Bnd) : bfold (l ++ [p]) = upd (bfold l) p.1.toNat p.2 := by unfold bfold; rw [List.foldl_append]; rfl

/-! ### Slices of bindings -/
def BSlot (w : World) (F : Nat → Prop) (A : Option Addr) (i : Nat) (n : Int) (v : Value) : Prop :=
  ∃ b o x0 x1 x2 x3, A = some ⟨b, o, none⟩ ∧ F b ∧ v = .agg #[x0, x1, x2, x3] ∧ w.cell? ⟨b, o + i * 5, none⟩ = some (.int .i64 n) ∧ w.cell? ⟨b, o + i * 5 + 1, none⟩ = some x0 ∧ w.cell? ⟨b, o + i * 5 + 2, none⟩ = some x1 ∧ w.cell? ⟨b, o + i * 5 + 3, none⟩ = some x2 ∧ w.cell? ⟨b, o + i * 5 + 4, none⟩ = some x3
def BsAt (w : World) (F : Nat → Prop) (A : Option Addr) (l : List Bnd) : Prop := ∀ i p, l[i]? = some p → ∃ v, BSlot w F A i p.1 v ∧ TAt w F p.2 v
section
variable {w w' : World} {F G : Nat → Prop} {A : Option Addr} {l : List Bnd}
theorem BsAt.mono (h : BsAt w F A l) (hF : ∀ b, F b → G b) : BsAt w G A l := fun i p hp => by
  obtain ⟨v, ⟨b, o, x0, x1, x2, x3, hA, hb, r⟩, h2⟩ := h i p hp
  exact ⟨v, ⟨b, o, x0, x1, x2, x3, hA, hF b hb, r⟩, h2.mono hF⟩
theorem BsAt.keep (h : BsAt w F A l) (hk : ∀ p : Addr, F p.block → w'.cell? p = w.cell? p) : BsAt w' F A l := fun i p hp => by
  obtain ⟨v, ⟨b, o, x0, x1, x2, x3, hA, hb, hv, c0, c1, c2, c3, c4⟩, h2⟩ := h i p hp
  exact ⟨v, ⟨b, o, x0, x1, x2, x3, hA, hb, hv, (hk _ hb).trans c0, (hk _ hb).trans c1, (hk _ hb).trans c2, (hk _ hb).trans c3, (hk _ hb).trans c4⟩, h2.keep hk⟩
theorem BsAt.at_ (h : BsAt w F A l) {i : Nat} {p : Bnd} (hp : l[i]? = some p) :
    ∃ b o A' c', A = some ⟨b, o, none⟩ ∧ F b ∧ w.cell? ⟨b, o + i * 5, none⟩ = some (.int .i64 p.1) ∧ w.cell? ⟨b, o + i * 5 + 1, none⟩ = some (.int .i64 p.2.k) ∧ w.cell? ⟨b, o + i * 5 + 2, none⟩ = some (.int .i64 p.2.n) ∧ w.cell? ⟨b, o + i * 5 + 3, none⟩ = some (.string p.2.s) ∧ w.cell? ⟨b, o + i * 5 + 4, none⟩ = some (.slice A' p.2.l.length c') ∧
      TAt w F p.2 (.agg #[.int .i64 p.2.k, .int .i64 p.2.n, .string p.2.s, .slice A' p.2.l.length c']) := by
  obtain ⟨v, ⟨b, o, x0, x1, x2, x3, hA, hb, hv, c0, c1, c2, c3, c4⟩, ht⟩ := h i p hp
  have ht2 := ht
  obtain ⟨A', c', rfl, ok, hl⟩ := ht.inv
  unfold tv at hv ht2
  injection hv with hv
  simp only [Array.mk.injEq, List.cons.injEq, and_true] at hv
  obtain ⟨e0, e1, e2, e3⟩ := hv
  subst e0 e1 e2 e3
  exact ⟨b, o, A', c', hA, hb, c0, c1, c2, c3, c4, ht2⟩
end

/-! ### The block of pattern.binds -/
def Cl (W : World) (g N : Nat) (b : Bf) : Prop := ∀ n, n < 100 → ∃ (k m : Int) (s : ByteArray) (A : Option Addr) (len c : Nat),
  (W.cell? ⟨g, 2 + n * 4, none⟩ = some (.int .i64 k) ∧ W.cell? ⟨g, 2 + n * 4 + 1, none⟩ = some (.int .i64 m) ∧ W.cell? ⟨g, 2 + n * 4 + 2, none⟩ = some (.string s) ∧ W.cell? ⟨g, 2 + n * 4 + 3, none⟩ = some (.slice A len c)) ∧
  (W.frozen? ⟨g, 2 + n * 4, none⟩ = false ∧ W.frozen? ⟨g, 2 + n * 4 + 1, none⟩ = false ∧ W.frozen? ⟨g, 2 + n * 4 + 2, none⟩ = false ∧ W.frozen? ⟨g, 2 + n * 4 + 3, none⟩ = false) ∧
  (∀ t, b n = some t → TAt W (· < N) t (.agg #[.int .i64 k, .int .i64 m, .string s, .slice A len c]) ∧ nodes t ≤ 1048576) ∧ (b n = none → k = 0 ∧ m = 0 ∧ s = ⟨#[]⟩ ∧ A = none ∧ len = 0 ∧ c = 0)
def BdI (W : World) (g N : Nat) (b : Bf) : Prop := N ≤ g ∧ SetI W g (fun n => (b n).isSome) ∧ Cl W g N b
section
variable {W W' : World} {g N : Nat} {b : Bf} {F : Nat → Prop}
theorem Cl.keep (h : Cl W g N b) (hN : N ≤ g) (hk : Keep F W W') (hg : ¬ F g) (hF : ∀ k, k < N → ¬ F k) : Cl W' g N b := fun n hn => by
  obtain ⟨k, m, s, A, len, c, ⟨c0, c1, c2, c3⟩, ⟨f0, f1, f2, f3⟩, h1, h2⟩ := h n hn
  have hl : g < W.heap.size := World.block_lt_of_cell? _ _ c0
  exact ⟨k, m, s, A, len, c, ⟨(hk.cell (p := ⟨g, 2 + n * 4, none⟩) hl hg).trans c0, (hk.cell (p := ⟨g, 2 + n * 4 + 1, none⟩) hl hg).trans c1, (hk.cell (p := ⟨g, 2 + n * 4 + 2, none⟩) hl hg).trans c2, (hk.cell (p := ⟨g, 2 + n * 4 + 3, none⟩) hl hg).trans c3⟩,
    ⟨(hk.frozen (p := ⟨g, 2 + n * 4, none⟩) hl hg).trans f0, (hk.frozen (p := ⟨g, 2 + n * 4 + 1, none⟩) hl hg).trans f1, (hk.frozen (p := ⟨g, 2 + n * 4 + 2, none⟩) hl hg).trans f2, (hk.frozen (p := ⟨g, 2 + n * 4 + 3, none⟩) hl hg).trans f3⟩, fun t ht => ⟨(h1 t ht).1.keep fun p hp => hk.cell (Nat.lt_of_lt_of_le hp (by omega)) (hF _ hp), (h1 t ht).2⟩, h2⟩
theorem BdI.keep (h : BdI W g N b) (hk : Keep F W W') (hg : ¬ F g) (hF : ∀ k, k < N → ¬ F k) : BdI W' g N b := ⟨h.1, h.2.1.keep hk hg, h.2.2.keep h.1 hk hg hF⟩
theorem BdI.later (h : BdI W g N b) (hb : Below W.heap.size W W') : BdI W' g N b := h.keep (F := fun _ => False) (Keep.new hb) (fun h => h) (fun _ _ h => h)
theorem BdI.lt (h : BdI W g N b) : g < W.heap.size := h.2.1.lt
/-- A variable's bit is set: its cells lie as they lay. -/
def BdJ (W : World) (g N : Nat) (b : Bf) (n : Nat) : Prop := N ≤ g ∧ SetI W g (fun m => decide (m = n) || (b m).isSome) ∧ Cl W g N b
theorem BdI.add (h : BdI W g N b) {n : Nat} (hn : n < 100) : Calls Try.prog 57 #[.pointer (some ⟨g, 0, none⟩), .int .i64 (n : Int)] W fun e w' => e = .returned (.tuple #[]) ∧ BdJ w' g N b n ∧ Keep (fun k => k = g) W w' ∧ w'.heap.size = W.heap.size := by
  obtain ⟨hN, hS, hC⟩ := h
  refine (hS.add hn).mono ?_
  rintro e w' ⟨rfl, hs, hk, hc, hf, hz⟩
  refine ⟨rfl, ⟨hN, hs, fun q hq => ?_⟩, hk, hz⟩
  obtain ⟨k, m, s, A, len, c, ⟨c0, c1, c2, c3⟩, ⟨f0, f1, f2, f3⟩, h1, h2⟩ := hC q hq
  have hl : g < W.heap.size := World.block_lt_of_cell? _ _ c0
  exact ⟨k, m, s, A, len, c, ⟨(hc _ (by omega)).trans c0, (hc _ (by omega)).trans c1, (hc _ (by omega)).trans c2, (hc _ (by omega)).trans c3⟩, ⟨(hf _).trans f0, (hf _).trans f1, (hf _).trans f2, (hf _).trans f3⟩,
    fun t ht => ⟨(h1 t ht).1.keep fun p hp => hk.cell (Nat.lt_of_lt_of_le hp (by omega)) (fun e => by have : p.block < N := hp; omega), (h1 t ht).2⟩, h2⟩
theorem BdI.has (h : BdI W g N b) {n : Nat} (hn : n < 100) : Calls Try.prog 53 #[.pointer (some ⟨g, 0, none⟩), .int .i64 (n : Int)] W fun e w' => e = .returned (.bool (b n).isSome) ∧ W = w' := h.2.1.has hn
theorem BdJ.keep {n : Nat} (h : BdJ W g N b n) (hk : Keep F W W') (hg : ¬ F g) (hF : ∀ k, k < N → ¬ F k) : BdJ W' g N b n := ⟨h.1, h.2.1.keep hk hg, h.2.2.keep h.1 hk hg hF⟩
theorem BdJ.put {n : Nat} {k m : Int} {s : ByteArray} {A : Option Addr} {len c : Nat} {t : Tm} (h : BdJ W g N b n) (hn : n < 100) (ht : TAt W (· < N) t (.agg #[.int .i64 k, .int .i64 m, .string s, .slice A len c])) (hnt : nodes t ≤ 1048576) :
    BdI (put4at W g (2 + n * 4) (.int .i64 k) (.int .i64 m) (.string s) (.slice A len c)) g N (upd b n t) := by
  obtain ⟨hN, hS, hC⟩ := h
  have hlt := hS.lt
  have hkp : Keep (fun k => k = g) W (put4at W g (2 + n * 4) (.int .i64 k) (.int .i64 m) (.string s) (.slice A len c)) := put4at_keeps _ _ _ _ _ _ _
  have hold : ∀ p : Addr, p.block < N → (put4at W g (2 + n * 4) (.int .i64 k) (.int .i64 m) (.string s) (.slice A len c)).cell? p = W.cell? p := fun p hp => hkp.cell (by omega) (fun e => by omega)
  have hd : ∀ q, (q < 2 + n * 4 ∨ 2 + n * 4 + 4 ≤ q) → (put4at W g (2 + n * 4) (.int .i64 k) (.int .i64 m) (.string s) (.slice A len c)).cell? ⟨g, q, none⟩ = W.cell? ⟨g, q, none⟩ := fun q hq => cell_put4at_far _ _ _ _ _ _ _ (.inr (by omega))
  refine ⟨hN, ?_, fun q hq => ?_⟩
  · obtain ⟨lo, hi, hb, c0, c1, f0, f1, h2⟩ := hS
    refine ⟨lo, hi, hb, (hd 0 (.inl (by omega))).trans c0, (hd 1 (.inl (by omega))).trans c1, by rw [frozen_put4at]; exact f0, by rw [frozen_put4at]; exact f1, fun m hm => ?_⟩
    rw [h2 m hm]
    unfold upd
    by_cases e : m = n
    · simp [e]
    · simp [e]
  · by_cases e : q = n
    · subst e
      obtain ⟨_, _, _, _, _, _, ⟨c0, c1, c2, c3⟩, ⟨f0, f1, f2, f3⟩, _, _⟩ := hC q hq
      refine ⟨k, m, s, A, len, c, cell_put4at W g (2 + q * 4) _ _ _ _ ⟨_, c0⟩ ⟨_, c1⟩ ⟨_, c2⟩ ⟨_, c3⟩, by simp only [frozen_put4at]; exact ⟨f0, f1, f2, f3⟩, fun u hu => ?_, fun hu => ?_⟩
      · unfold upd at hu
        rw [if_pos rfl] at hu
        injection hu with hu
        subst hu
        exact ⟨ht.keep hold, hnt⟩
      · unfold upd at hu
        rw [if_pos rfl] at hu
        cases hu
    · obtain ⟨k', m', s', A', len', c', ⟨c0, c1, c2, c3⟩, ⟨f0, f1, f2, f3⟩, h1, h2⟩ := hC q hq
      have eu : upd b n t q = b q := by unfold upd; rw [if_neg e]
      exact ⟨k', m', s', A', len', c', ⟨(hd _ (by omega)).trans c0, (hd _ (by omega)).trans c1, (hd _ (by omega)).trans c2, (hd _ (by omega)).trans c3⟩, by simp only [frozen_put4at]; exact ⟨f0, f1, f2, f3⟩, fun u hu => by rw [eu] at hu; exact ⟨(h1 u hu).1.keep hold, (h1 u hu).2⟩, fun hu => by rw [eu] at hu; exact h2 hu⟩
end
theorem rep4 {α : Type} (a b c d : α) : ∀ (m n : Nat), n < m → (List.replicate m [a, b, c, d]).flatten[n * 4]? = some a ∧ (List.replicate m [a, b, c, d]).flatten[n * 4 + 1]? = some b ∧ (List.replicate m [a, b, c, d]).flatten[n * 4 + 2]? = some c ∧ (List.replicate m [a, b, c, d]).flatten[n * 4 + 3]? = some d
  | 0, n, h => by omega
  | m + 1, 0, _ => by rw [List.replicate_succ, List.flatten_cons]; exact ⟨rfl, rfl, rfl, rfl⟩
  | m + 1, n + 1, h => by
    have ih := rep4 a b c d m n (by omega)
    rw [List.replicate_succ, List.flatten_cons, show (n + 1) * 4 = n * 4 + 4 by omega]
    exact ih
theorem zeroB : Try.zeroCells67.toList = [.int .u64 0, .int .u64 0] ++ (List.replicate 100 [Value.int .i64 0, .int .i64 0, .string ⟨#[]⟩, .slice none 0 0]).flatten := by kernel_rfl
theorem BdI.new (w : World) (N : Nat) (hN : N ≤ w.heap.size) : BdI (w.alloc (.cells Try.zeroCells67 67)) w.heap.size N (fun _ => none) := by
  have hb := Blk.new w 67 Try.zeroCells67
  have hc : ∀ i, (w.alloc (.cells Try.zeroCells67 67)).cell? ⟨w.heap.size, i, none⟩ = ([.int .u64 0, .int .u64 0] ++ (List.replicate 100 [Value.int .i64 0, .int .i64 0, .string ⟨#[]⟩, .slice none 0 0]).flatten)[i]? := fun i => by
    rw [hb.cell, ← Array.getElem?_toList, zeroB]
  refine ⟨hN, ⟨0, 0, by decide, by rw [hc]; rfl, by rw [hc]; rfl, hb.frozen _, hb.frozen _, fun m hm => by unfold hasB; simp⟩, fun n hn => ?_⟩
  obtain ⟨r0, r1, r2, r3⟩ := rep4 (Value.int .i64 0) (.int .i64 0) (.string ⟨#[]⟩) (.slice none 0 0) 100 n hn
  have e : ∀ q u, (List.replicate 100 [Value.int .i64 0, .int .i64 0, .string ⟨#[]⟩, .slice none 0 0]).flatten[q]? = some u → ([.int .u64 0, .int .u64 0] ++ (List.replicate 100 [Value.int .i64 0, .int .i64 0, .string ⟨#[]⟩, .slice none 0 0]).flatten)[2 + q]? = some u := fun q u h => by
    rw [List.getElem?_append_right (by simp), show 2 + q - [Value.int .u64 0, Value.int .u64 0].length = q by simp]
    exact h
  exact ⟨0, 0, ⟨#[]⟩, none, 0, 0, ⟨by rw [hc]; exact e _ _ r0, by rw [hc]; exact e _ _ r1, by rw [hc]; exact e _ _ r2, by rw [hc]; exact e _ _ r3⟩, ⟨hb.frozen _, hb.frozen _, hb.frozen _, hb.frozen _⟩, fun t ht => (by cases ht), fun _ => ⟨rfl, rfl, rfl, rfl, rfl, rfl⟩⟩
end Go.Proofs.Ytlaplakaifmpeaa.Pt
