/- Bytes lent with a spare tail: LentBytes, KeptBytes. -/
import Derived.Test.YtbpdaoedmjpdpaaHashOps
import Derived.Laws.CopyOwn
import Derived.Deep.OwnRows
import Derived.Deep.RegionHeld3
import Derived.IntWalk
namespace Go.Proofs.Ytbpdaoedmjpdpaa.Hs
open Go.RowKit K
set_option linter.unusedVariables false
set_option linter.unusedSimpArgs false

def zs8 (n : Nat) : Array Value := (List.replicate n (Value.int .u8 0)).toArray
theorem infoU8 : (Try.prog.info? 5).map (fun i => (i.zero, i.size, i.bytes)) = some (some (.int .u8 0), 1, 1) := by kernel_rfl
theorem sizeU8 : (Try.prog.info? 5).map (·.size) = some 1 := by kernel_rfl
/-- The spare tail. -/
def spare (n : Nat) : List B8 := [b8 (160 + (n : Int) % 90), b8 (160 + ((n : Int) + 1) % 90), b8 (160 + ((n : Int) + 2) % 90)]
def lentL (bs : List B8) : List B8 := bs ++ spare bs.length
theorem lent_len (bs : List B8) : (lentL bs).length = bs.length + 3 := by simp [lentL, spare]
def lentC (bs : List B8) (k : Nat) : List Value := encs8 (bs ++ (spare bs.length).take k) ++ List.replicate (3 - k) (.int .u8 0)
theorem lentC_len (bs : List B8) (k : Nat) (hk : k ≤ 3) : (lentC bs k).length = bs.length + 3 := by
  unfold lentC encs8 spare
  simp
  omega
theorem lentC_start (bs : List B8) : splice (List.replicate (bs.length + 3) (Value.int .u8 0)) 0 (encs8 bs) = lentC bs 0 := by
  unfold splice lentC
  have e : (encs8 bs).length = bs.length := by simp [encs8]
  rw [e]
  simp
theorem lentC_end (bs : List B8) : lentC bs 3 = encs8 (lentL bs) := by
  unfold lentC lentL
  rw [List.take_of_length_le (by simp [spare])]
  simp
theorem set_at {α : Type} (l r : List α) (x y : α) : (l ++ x :: r).set l.length y = l ++ y :: r := by
  induction l with
  | nil => rfl
  | cons a l ih => simp [ih]
theorem lentC_step (bs : List B8) (k : Nat) (hk : k < 3) : (lentC bs k).toArray.setIfInBounds (bs.length + k) (.int .u8 ((b8 (160 + ((bs.length : Int) + k) % 90)).1)) = (lentC bs (k + 1)).toArray := by
  have e : (encs8 (bs ++ (spare bs.length).take k)).length = bs.length + k := by
    unfold encs8 spare; simp; omega
  have e2 : lentC bs k = encs8 (bs ++ (spare bs.length).take k) ++ (.int .u8 0) :: List.replicate (2 - k) (.int .u8 0) := by
    unfold lentC
    obtain ⟨j, hj⟩ : ∃ j, 3 - k = j + 1 := ⟨2 - k, by omega⟩
    rw [hj, List.replicate_succ, show 2 - k = j by omega]
  rw [List.setIfInBounds_toArray, e2, ← e, set_at]
  have hc : k = 0 ∨ k = 1 ∨ k = 2 := by omega
  rcases hc with rfl | rfl | rfl <;> simp [lentC, spare, encs8]

set_option maxRecDepth 100000 in
set_option maxHeartbeats 4000000 in
theorem lent_any (bs : List B8) (B : Nat) (A : Option Addr) (c : Nat) (w : World) (hr : Reads w B 1 A bs.length (encs8 bs)) (hB : B ≤ w.heap.size) (hl : bs.length ≤ 1000) :
    Calls Try.prog 8 #[.slice A bs.length c] w fun e w' => e = .returned (.slice (some ⟨w.heap.size, 0, none⟩) bs.length (bs.length + 3)) ∧ Blk w' w.heap.size 5 (encs8 (lentL bs)).toArray ∧ Below w.heap.size w w' := by
  have HMK := fun w => run_make_row' (P := Try.prog) 23 5 (.int .u8 0) 1 Try.underlying23 infoU8 rfl .i64 .i64 (bs.length + 3) (by omega) (by omega) w
  have e0 : madeCells #[Value.int .u8 0] (bs.length + 3) = (List.replicate (bs.length + 3) (Value.int .u8 0)).toArray := by
    apply Array.ext'
    rw [toList_madeCells_one]
  have hmk : ∀ w, (Instr.makeSlice 23 (.int .i64 ((bs.length : Int) + 3)) (.int .i64 ((bs.length : Int) + 3))).run Try.prog w = .ok (.slice (some ⟨w.heap.size, 0, none⟩) (bs.length + 3) (bs.length + 3)) (w.alloc (.cells (zs8 (bs.length + 3)) 5)) := fun w => by
    unfold zs8; rw [← e0]; exact HMK w
  clear HMK e0
  have hle : bs.length < 9223372036854775000 := by omega
  have HBS := Lib.hid (show ∀ w', Below w.heap.size w w' → Reads w' B 1 A bs.length (encs8 bs) from fun w' hb => hr.below ⟨hb.os, hb.tape, hb.output, by have := hb.size; omega, fun k hk => hb.block k (by omega)⟩)
  have hb0 : Below w.heap.size w (w.alloc (.cells (zs8 (bs.length + 3)) 5)) := ballocs (Below.refl _ _) _
  have hg0 : Blk (w.alloc (.cells (zs8 (bs.length + 3)) 5)) w.heap.size 5 (List.replicate (bs.length + 3) (Value.int .u8 0)).toArray := Blk.new _ _ _
  have HB0 := Lib.hid hb0
  have HG0 := Lib.hid hg0
  have HR0 := Lib.hid (HBS.out _ hb0)
  have hel : (encs8 bs).length = bs.length := by simp [encs8]
  have HN := Lib.hid (show (encs8 bs).length = Nat.min bs.length (bs.length + 3) from by rw [hel]; show _ = min _ _; omega)
  have HF := Lib.hid (show 0 + (encs8 bs).length ≤ (List.replicate (bs.length + 3) (Value.int .u8 0)).length from by rw [hel]; simp)
  have HP := Lib.hid (show 0 < (encs8 bs).length → (some (⟨w.heap.size, 0, none⟩ : Addr)) = some ⟨w.heap.size, 0, none⟩ ∧ ∃ ad, A = some ad ∧ ∀ j v, (encs8 bs)[j]? = some v → (w.alloc (.cells (zs8 (bs.length + 3)) 5)).cell? (ad.add j) = some v from fun hp => by
    obtain ⟨ad, hA, _, hc⟩ := HR0.out.2 (by omega)
    exact ⟨rfl, ad, hA, hc⟩)
  have HL := Lib.hid hel
  clear hb0 hg0 hel hr
  go_enter Try.func8, Try.ntmps8
  go_wp2_with (refine wpList_copy_splice (o := ⟨some 11, _, _, _, _, _⟩) rfl (.tmp 9) (.tmp 10) 23 23 rfl 5 Try.underlying23 sizeU8 (some ⟨w.heap.size, 0, none⟩) A (bs.length + 3) (bs.length + 3) bs.length c rfl rfl w.heap.size 0 (List.replicate (bs.length + 3) (Value.int .u8 0)) 5 HG0.out (encs8 bs) HN.out HP.out HF.out (encs8_one bs) w.heap.size w HB0.out (Nat.le_refl _) ?_; intro w1 hg1 hb1; rw [HL.out]; rw [lentC_start] at hg1; have HB1 := Lib.hid hb1; have HG1 := hg1; clear hb1 hg1)
  go_loopw [4] (fun i w' => ∃ k : Nat, k ≤ 3 ∧ i = .int .i64 ((bs.length : Int) + (k : Int)) ∧ Blk w' w.heap.size 5 (lentC bs k).toArray ∧ Below w.heap.size w w') (fun i _ => bs.length + 3 - (intOf i).toNat)
  case atStart => exact ⟨0, Nat.zero_le _, by simp, HG1.out, HB1.out⟩
  case round =>
    obtain ⟨k, hk, rfl, hG, hB2⟩ := hrel
    have HB2 := Lib.hid hB2
    have HG := Lib.hid hG
    by_cases hlt : k < 3
    · have hcell : ∃ x, wr.cell? ⟨w.heap.size, bs.length + k, none⟩ = some x := by
        rw [hG.cell]
        exact ⟨_, Array.getElem?_eq_getElem (by have := lentC_len bs k (by omega); simp; omega)⟩
      have hfz := hG.frozen (bs.length + k)
      obtain ⟨x, hx⟩ := hcell
      have HST := Lib.hid (show (lentC bs k).toArray.setIfInBounds (bs.length + k) (.int .u8 (160 + ((bs.length : Int) + k) % 90)) = (lentC bs (k + 1)).toArray from by
        have h1 := lentC_step bs k hlt
        have h2 : (b8 (160 + ((bs.length : Int) + k) % 90)).1 = 160 + ((bs.length : Int) + k) % 90 := by show (160 + ((bs.length : Int) + k) % 90) % 256 = _; omega
        rw [h2] at h1
        exact h1)
      clear hG hB2
      go_wp2_with fail
      refine ⟨⟨k + 1, by omega, by go_num, ?_, ?_⟩, by simp [intOf]; omega⟩
      · have := HG.out.set_ (bs.length + k) (.int .u8 (160 + ((bs.length : Int) + k) % 90))
        rw [HST.out] at this
        exact this
      · exact HB2.out.setCell (p := ⟨w.heap.size, bs.length + k, none⟩) (Nat.le_refl _) _
    · obtain rfl : k = 3 := by omega
      rw [lentC_end] at HG
      clear hG hB2
      go_wp2_with fail
      go_ret
      exact ⟨rfl, HG.out, HB2.out⟩
theorem add_block (g j : Nat) : (⟨g, 0, none⟩ : Addr).add j = ⟨g, j, none⟩ := by
  unfold Addr.add
  split
  · rename_i h0; subst h0; rfl
  · simp
theorem blk_reads {w : World} {g n : Nat} {bs : List B8} (h : Blk w g 5 (encs8 bs).toArray) (hn : n ≤ bs.length) : Reads w w.heap.size 1 (some ⟨g, 0, none⟩) n (encs8 (bs.take n)) := by
  refine ⟨by simp [encs8]; omega, fun _ => ⟨_, rfl, h.lt, fun j u hu => ?_⟩⟩
  rw [add_block, h.cell]
  unfold encs8 at hu ⊢
  rw [List.getElem?_map, List.getElem?_take] at hu
  split at hu
  · simp only [List.getElem?_toArray, List.getElem?_map]
    exact hu
  · simp at hu
set_option maxRecDepth 100000 in
set_option maxHeartbeats 4000000 in
theorem kept_any (bs : List B8) (g : Nat) (A : Option Addr) (c : Nat) (w : World) (hg : Blk w g 5 (encs8 (lentL bs)).toArray) (hr : Reads w w.heap.size 1 A bs.length (encs8 bs)) (hl : bs.length ≤ 1000) :
    Calls Try.prog 13 #[.slice (some ⟨g, 0, none⟩) bs.length (bs.length + 3), .slice A bs.length c] w fun e w' => e = .returned (.bool true) ∧ Below w.heap.size w w' := by
  have HG := Lib.hid hg
  have HR := Lib.hid hr
  have hle : bs.length < 9223372036854775000 := by omega
  obtain ⟨C, hC⟩ : ∃ C, bs.length + 3 = C := ⟨_, rfl⟩
  have hC2 : (bs.length : Int) + 3 = (C : Int) := by omega
  have hC3 : C ≤ 1003 := by omega
  have hLL : (lentL bs).length = C := by rw [lent_len]; exact hC
  have HC := Lib.hid hC
  have HLL := Lib.hid hLL
  rw [hC]
  have hw : IntKind.i64.wrap ((bs.length : Int) + 3) = (C : Int) := by rw [hC2]; exact IntWalk.i64_in _ (by omega)
  have hnc : bs.length ≤ C := by omega
  clear hg hr hC hC2 hLL
  have HS := Lib.hid (show ∀ wx', Below w.heap.size w wx' → Below w.heap.size w wx' ∧ True from fun _ h => ⟨h, trivial⟩)
  go_enter Try.func13, Try.ntmps13
  go_wp2_with fail
  go_region_held3 (fun wx' => Below w.heap.size w wx' ∧ True) (first
    | exact HS.out _ (btodrew (Below.refl _ _))
    | exact HS.out _ hbz
    | assumption) (first
    | (go_at_call 8
       have hby := And.left (by assumption)
       refine (lent_any bs w.heap.size A c _ (HR.out.below hby) hby.size hl).mono ?_
       rintro e w1 ⟨rfl, hg1, hb1⟩
       rw [HC.out]
       have HG1 := Lib.hid hg1
       have hbz := bnext hby hb1
       clear hg1 hb1)
    | (go_at_call 15
       have hby := And.left (by assumption)
       have h1 := blk_reads (n := (lentL bs).length) (HG.out.below hby HG.out.lt) (Nat.le_refl _)
       have h2 := blk_reads (n := (lentL bs).length) HG1.out (Nat.le_refl _)
       rw [List.take_length] at h1 h2
       have h3 := sameB_any (lentL bs) (lentL bs) _ _ _ C C _ h1 h2 (fun h => by cases h) (fun h => by cases h)
       rw [HLL.out] at h3
       refine h3.mono ?_
       rintro e w2 ⟨rfl, rfl⟩
       rw [show decide (lentL bs = lentL bs) = true from decide_eq_true rfl]
       have hbz := hby
       clear h1 h2 h3))
  have hb := And.left (by assumption)
  go_wp2_with fail
  go_ret
  exact ⟨rfl, hb⟩
end Go.Proofs.Ytbpdaoedmjpdpaa.Hs
