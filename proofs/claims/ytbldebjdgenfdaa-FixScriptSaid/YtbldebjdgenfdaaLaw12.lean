/- The helpers of the statements on counts: Holders; the examples' count; awake. -/
import Derived.Test.YtbldebjdgenfdaaFix3
import Derived.Test.YtbldebjdgenfdaaKeys12
import Derived.Test.YtbldebjdgenfdaaSameInts
namespace Go.Proofs.Ytbldebjdgenfdaa.Fx
open Go.RowKit K
set_option linter.unusedVariables false
set_option linter.unusedSimpArgs false

def ins (x : Int) : List Int → List Int
  | [] => [x]
  | a :: r => if x < a then x :: a :: r else if x = a then a :: r else a :: ins x r
/-- Who fixes, once each, in order. -/
def hold : List Int → List Int
  | [] => []
  | a :: r => ins a (hold r)
theorem ins_mem (x y : Int) (l : List Int) : y ∈ ins x l ↔ y = x ∨ y ∈ l := by
  induction l with
  | nil => simp [ins]
  | cons a r ih =>
    simp only [ins]
    split
    · simp
    · split
      · rename_i h; subst h; simp
      · simp only [List.mem_cons, ih]
        constructor
        · rintro (h | h | h)
          · exact .inr (.inl h)
          · exact .inl h
          · exact .inr (.inr h)
        · rintro (h | h | h)
          · exact .inr (.inl h)
          · exact .inl h
          · exact .inr (.inr h)
theorem ins_sorted (x : Int) {l : List Int} (h : l.Pairwise (· < ·)) : (ins x l).Pairwise (· < ·) := by
  induction l with
  | nil => simp [ins]
  | cons a r ih =>
    have h1 : ∀ y ∈ r, a < y := fun y hy => List.rel_of_pairwise_cons h hy
    have h2 : r.Pairwise (· < ·) := List.Pairwise.of_cons h
    simp only [ins]
    split
    · rename_i hx
      exact List.Pairwise.cons (fun y hy => by
        rcases List.mem_cons.1 hy with h | h
        · omega
        · have := h1 y h; omega) h
    · split
      · exact h
      · exact List.Pairwise.cons (fun y hy => by
          rcases (ins_mem x y r).1 hy with h | h
          · omega
          · exact h1 y h) (ih h2)
theorem ins_length (x : Int) (l : List Int) : (ins x l).length ≤ l.length + 1 := by
  induction l with
  | nil => simp [ins]
  | cons a r ih =>
    simp only [ins]
    split
    · simp
    · split
      · simp
      · simp; omega
theorem hold_mem (L : List Int) (x : Int) : x ∈ hold L ↔ x ∈ L := by
  induction L with
  | nil => simp [hold]
  | cons a r ih => simp [hold, ins_mem, ih]
theorem hold_sorted (L : List Int) : (hold L).Pairwise (· < ·) := by
  induction L with
  | nil => exact List.Pairwise.nil
  | cons a r ih => exact ins_sorted a ih
theorem hold_length (L : List Int) : (hold L).length ≤ L.length := by
  induction L with
  | nil => simp [hold]
  | cons a r ih => have := ins_length a (hold r); simp [hold]; omega

set_option maxRecDepth 100000 in
set_option maxHeartbeats 4000000 in
theorem holders_any (g n : Nat) (L : List Int) (w : World) (F : Nat → Prop) (hT : CT w F g n L) (hn : L.length ≤ 1073741824) :
    Calls Try.prog 12 #[.pointer (some ⟨g, 0, none⟩)] w (Ks.RowPost w (hold L)) := by
  obtain ⟨bm, D, fl, fg, fm, hB, hM, hD⟩ := hT
  have c0 : w.cell? ⟨g, 0, none⟩ = some (.map (some bm)) := by rw [hB.cell]; rfl
  have HK := Lib.hid (Ks.sorted_ks bm n D (plainElem Try.prog 3) w hM (hold L) (hold_sorted L) (fun x => by
    rw [hold_mem, ← cnt_pos]
    have := (hD.2 x).1
    unfold ky at this
    rw [this]
    simp) (by have := hold_length L; omega))
  clear hD hM hB
  go_enter Try.func12, Try.ntmps12
  go_wp2_with (first
    | (go_at_call 25; refine (none_no g bm _ c0).mono ?_; rintro e w1 ⟨rfl, rfl⟩)
    | (go_at_call 27; refine (Ks.keys_c _ _).mono ?_; rintro e w1 ⟨rfl, rfl⟩)
    | (go_at_call 26; refine HK.out.mono ?_; rintro e w2 ⟨v2, rfl, hR2, hb2⟩))
  go_ret
  exact ⟨v2, rfl, ownsRow_base hR2 (fun r hr => by have := hR2.lt r hr; simp at this; omega), ((Below.refl _ w).alloc (Nat.le_refl _) _).trans (hb2.mono (by simp))⟩

/-! ### A count of our own -/
def St (B0 : Nat) (w0 : World) (g n : Nat) (L : List Int) (w : World) : Prop := Below B0 w0 w ∧ B0 ≤ w.heap.size ∧ ∃ F, CT w F g n L ∧ ∀ k, F k → B0 ≤ k
theorem CT.drewN {w : World} {F : Nat → Prop} {g n : Nat} {L : List Int} (h : CT w F g n L) (k : Nat) : CT (w.drewN k) F g n L := by
  obtain ⟨bm, D, r⟩ := h
  exact ⟨bm, D, r⟩
section
variable {B0 : Nat} {w0 w w' : World} {g n : Nat} {L : List Int}
theorem St.moved {F : Nat → Prop} {n' : Nat} {L' : List Int} (h0 : Below B0 w0 w) (hz : B0 ≤ w.heap.size) (hF : ∀ k, F k → B0 ≤ k) (h : Moved w F g n' L' w') : St B0 w0 g n' L' w' :=
  ⟨h.2.below h0 hz (fun i hi hf => by have := hF i hf; omega), Nat.le_trans hz h.2.size, F, h.1, hF⟩
theorem St.grown (h : St B0 w0 g n L w) (hb : Below w.heap.size w w') : St B0 w0 g n L w' := by
  obtain ⟨h1, h2, F, hT, hF⟩ := h
  exact ⟨h1.trans (hb.mono h2), Nat.le_trans h2 hb.size, F, hT.keep (Keep.new hb (F := fun k => w.heap.size ≤ k)) (fun r hr hs => by have := hT.lt r hr; omega), hF⟩
theorem St.drewN (h : St B0 w0 g n L w) (k : Nat) : St B0 w0 g n L (w.drewN k) := by
  obtain ⟨h1, h2, F, hT, hF⟩ := h
  exact ⟨⟨h1.os, h1.tape, h1.output, h1.size, h1.block⟩, h2, F, hT.drewN k, hF⟩
theorem St.made (h0 : Below B0 w0 w) (hz : B0 ≤ w.heap.size) (h : CT w' (fun k => w.heap.size ≤ k ∧ k < w'.heap.size) g 0 []) (hb : Below w.heap.size w w') : St B0 w0 g 0 [] w' :=
  ⟨h0.trans (hb.mono hz), Nat.le_trans hz hb.size, _, h, fun k hk => Nat.le_trans hz hk.1⟩
theorem add_lit (hS : St B0 w0 g n L w) (p : Int) (h0 : 0 ≤ p) (h1 : p ≤ 1073741824) (hL : L.length < 1073741824) (hn : n < 1099511627776) :
    Calls Try.prog 19 #[.pointer (some ⟨g, 0, none⟩), .int .i64 p] w fun e w' => e = .returned (.int .i64 0) ∧ St B0 w0 g (n + 1) (L ++ [p]) w' := by
  obtain ⟨b1, b2, F, hT, hF⟩ := hS
  have e1 : adE p = 0 := by unfold adE; rw [if_neg (by omega)]
  have e2 : adL L p = L ++ [p] := by unfold adL; rw [if_neg (by omega)]
  have h := add_any g n L p w F hT (WalkArith.wf_i64 (by omega)) hL hn
  rw [e1, e2] at h
  exact h.mono fun e w' ⟨he, hm⟩ => ⟨he, St.moved b1 b2 hF hm⟩
theorem release_st (hS : St B0 w0 g n L w) (p : Int) (hp : (Lit.int .i64 p).wf = true) (hL : L.length ≤ 1073741824) (hn : n < 1099511627776) (b : Bool) (E : Int) (L' : List Int) (hb : rlB L p = b) (hE : rlE L p = E) (hl : less L p 1 = L') :
    Calls Try.prog 17 #[.pointer (some ⟨g, 0, none⟩), .int .i64 p] w fun e w' => e = .returned (.tuple #[.bool b, .int .i64 E]) ∧ St B0 w0 g (n + 1) L' w' := by
  obtain ⟨b1, b2, F, hT, hF⟩ := hS
  subst hb hE hl
  exact (release_any g n L p w F hT hp hL hn).mono fun e w' ⟨he, hm⟩ => ⟨he, St.moved b1 b2 hF hm⟩
theorem drop_st (hS : St B0 w0 g n L w) (p : Int) (hp : (Lit.int .i64 p).wf = true) (hL : L.length ≤ 1073741824) (y : Int) (b : Bool) (L' : List Int) (hy : (cnt L p : Int) = y) (hb : dpB L p = b) (hl : less L p (cnt L p) = L') :
    Calls Try.prog 18 #[.pointer (some ⟨g, 0, none⟩), .int .i64 p] w fun e w' => e = .returned (.tuple #[.int .i64 y, .bool b]) ∧ St B0 w0 g n L' w' := by
  obtain ⟨b1, b2, F, hT, hF⟩ := hS
  subst hy hb hl
  exact (drop_any g n L p w F hT hp hL).mono fun e w' ⟨he, hm⟩ => ⟨he, St.moved b1 b2 hF hm⟩
theorem of_st (hS : St B0 w0 g n L w) (p : Int) (hp : (Lit.int .i64 p).wf = true) (y : Int) (hy : (cnt L p : Int) = y) :
    Calls Try.prog 9 #[.pointer (some ⟨g, 0, none⟩), .int .i64 p] w fun e w' => e = .returned (.int .i64 y) ∧ w = w' := by
  obtain ⟨b1, b2, F, hT, hF⟩ := hS
  subst hy
  exact of_any g n L p w F hT hp
theorem total_st (hS : St B0 w0 g n L w) (y : Int) (hy : (L.length : Int) = y) :
    Calls Try.prog 11 #[.pointer (some ⟨g, 0, none⟩)] w fun e w' => e = .returned (.int .i64 y) ∧ w = w' := by
  obtain ⟨b1, b2, F, hT, hF⟩ := hS
  subst hy
  exact total_any g n L w F hT
theorem holders_st (hS : St B0 w0 g n L w) (hL : L.length ≤ 1073741824) : Calls Try.prog 12 #[.pointer (some ⟨g, 0, none⟩)] w (Ks.RowPost w (hold L)) := by
  obtain ⟨b1, b2, F, hT, hF⟩ := hS
  exact holders_any g n L w F hT hL
end

/-- The examples' count. -/
def Three (w : World) (e : Ending) (w' : World) : Prop := ∃ g, e = .returned (.tuple #[.pointer (some ⟨g, 0, none⟩), .bool true]) ∧ St w.heap.size w g 4 [7, 3] w'
set_option maxRecDepth 100000 in
set_option maxHeartbeats 4000000 in
theorem three_any (w : World) : Calls Try.prog 20 #[] w (Three w) := by
  go_enter Try.func20, Try.ntmps20
  go_wp2_with (go_at_call 7; refine (new_any _).mono ?_; rintro e w1 ⟨g, rfl, hT, hb⟩; have HS := Lib.hid (St.made (Below.refl _ _) (Nat.le_refl _) hT hb); clear hT hb)
  refine (add_lit HS.out 7 (by omega) (by omega) (by simp) (by omega)).mono ?_
  rintro e w2 ⟨rfl, h2⟩
  have H2 := Lib.hid h2
  clear h2 HS
  go_wp2_with fail
  refine (add_lit H2.out 7 (by omega) (by omega) (by simp) (by omega)).mono ?_
  rintro e w3 ⟨rfl, h3⟩
  have H3 := Lib.hid h3
  clear h3 H2
  go_wp2_with fail
  refine (add_lit H3.out 3 (by omega) (by omega) (by simp) (by omega)).mono ?_
  rintro e w4 ⟨rfl, h4⟩
  have H4 := Lib.hid h4
  clear h4 H3
  go_wp2_with fail
  refine (release_st H4.out 7 (by decide) (by simp) (by omega) false 0 [7, 3] (by decide) (by decide) (by decide)).mono ?_
  rintro e w5 ⟨rfl, h5⟩
  have H5 := Lib.hid h5
  clear h5 H4
  go_wp2_with fail
  go_ret2
  exact ⟨g, rfl, H5.out⟩

theorem pair_reads (w : World) (a b : Int) : Reads (w.alloc (.cells #[.int .i64 a, .int .i64 b] 3)) (w.alloc (.cells #[.int .i64 a, .int .i64 b] 3)).heap.size 1 (some ⟨w.heap.size, 0, none⟩) [a, b].length ([a, b].map (Value.int .i64)) :=
  Reads.of_own (World.ownsRow_lit (e := 3) (size := 1) (base := 0) w #[.int .i64 a, .int .i64 b] 2 (Nat.zero_le _) (by unfold maxLen; omega) rfl)

set_option maxRecDepth 100000 in
set_option maxHeartbeats 4000000 in
theorem awake_any (w : World) : Calls Try.prog 16 #[] w fun e w' => e = .returned (.bool true) ∧ Below w.heap.size w w' := by
  go_enter Try.func16, Try.ntmps16
  go_wp2_with (first | (go_at_call 20; refine (three_any _).mono ?_; rintro e w1 ⟨g, rfl, hS⟩; have HS := Lib.hid hS; clear hS) | fail)
  refine (of_st HS.out 7 (by decide) 1 (by decide)).mono ?_
  rintro e w2 ⟨rfl, rfl⟩
  go_wp2_with fail
  refine (total_st HS.out 2 (by decide)).mono ?_
  rintro e w2 ⟨rfl, rfl⟩
  go_wp2_with fail
  refine (holders_st HS.out (by simp)).mono ?_
  rintro e w2 ⟨v2, rfl, hR2, hb2⟩
  obtain ⟨A2, c2, rfl, _, _⟩ := ownsRow_form hR2
  have h37 : hold [7, 3] = [3, 7] := by decide
  rw [h37] at hR2
  have hl : (hold [7, 3]).length = 2 := by rw [h37]; rfl
  rw [hl]
  have HR := Lib.hid (sameInts_yes A2 (some ⟨w2.heap.size, 0, none⟩) c2 2 _ _ [3, 7] (w2.alloc (.cells #[.int .i64 3, .int .i64 7] 3)) ((Reads.of_own hR2).alloc (Nat.le_refl _) _) (pair_reads w2 3 7) (by simp))
  clear hR2
  go_wp2_with (go_at_call 13; refine HR.out.mono ?_; rintro e w3 ⟨rfl, k, rfl⟩)
  go_ret
  have hb := (HS.out.grown hb2).1
  have hz := (HS.out.grown hb2).2.1
  have hb4 := hb.alloc hz (.cells #[.int .i64 3, .int .i64 7] 3)
  exact ⟨ret1_b rfl, ⟨hb4.os, hb4.tape, hb4.output, hb4.size, hb4.block⟩⟩
end Go.Proofs.Ytbldebjdgenfdaa.Fx
