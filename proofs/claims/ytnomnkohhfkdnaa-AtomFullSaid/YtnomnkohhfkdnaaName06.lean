/- tenurelaw06.name: the text of a number. -/
import Derived.Test.YtnomnkohhfkdnaaLawKit
import Derived.Test.YtnomnkohhfkdnaaAtomSpec
import Derived.WalkLawsBesides
import Derived.WalkSpells
import Derived.Laws.IdiomStrings
import Derived.Deep.OwnRows
import Derived.Outline
namespace Go.Proofs.Ytnomnkohhfkdnaa.At
open Go.RowKit K
set_option linter.unusedVariables false
set_option linter.unusedSimpArgs false

def dv (n i : Nat) : Nat := n / 26 ^ i
theorem dv_zero (n : Nat) : dv n 0 = n := by simp [dv]
theorem dv_succ (n i : Nat) : dv n (i + 1) = dv n i / 26 := by unfold dv; rw [Nat.pow_succ, Nat.div_div_eq_div_mul]
def nmL (l n : Nat) : List UInt8 := (List.range l).map fun j => UInt8.ofNat (97 + dv n j % 26)
def nm (l n : Nat) : ByteArray := ⟨(nmL l n).toArray⟩
theorem nmL_length (l n : Nat) : (nmL l n).length = l := by simp [nmL]
theorem nmL_succ (l n : Nat) : nmL (l + 1) n = nmL l n ++ [UInt8.ofNat (97 + dv n l % 26)] := by simp [nmL, List.range_succ]
def byteV (b : UInt8) : Value := .int .u8 (b.toNat : Int)
/-- The row behind i rounds. -/
def fillA (l i n : Nat) : Array Value := ((nmL i n).map byteV ++ List.replicate (l - i) (Value.int .u8 0)).toArray
theorem fillA_zero (l n : Nat) : fillA l 0 n = (List.replicate l (Value.int .u8 0)).toArray := by simp [fillA, nmL]
theorem fillA_step (l i n : Nat) (h : i < l) : (fillA l i n).setIfInBounds i (.int .u8 (97 + ((dv n i : Int) % 26))) = fillA l (i + 1) n := by
  unfold fillA
  have e : l - i = (l - (i + 1)) + 1 := by omega
  rw [nmL_succ, e, List.replicate_succ]
  have hb : byteV (UInt8.ofNat (97 + dv n i % 26)) = .int .u8 (97 + ((dv n i : Int) % 26)) := by
    unfold byteV
    have : (UInt8.ofNat (97 + dv n i % 26)).toNat = 97 + dv n i % 26 := by
      rw [UInt8.toNat_ofNat']
      omega
    rw [this]
    congr 1
  rw [List.map_append, List.map_cons, List.map_nil, hb]
  have hl : ((nmL i n).map byteV).length = i := by simp [nmL_length]
  apply Array.ext'
  simp only [List.setIfInBounds_toArray, List.append_assoc, List.cons_append, List.nil_append]
  rw [List.set_append_right _ _ (by omega), hl]
  simp
theorem fillA_done (l n : Nat) : fillA l l n = ((nmL l n).map byteV).toArray := by simp [fillA]
theorem madeCells_zero (l : Nat) : madeCells #[Value.int .u8 0] l = (List.replicate l (Value.int .u8 0)).toArray := by
  apply Array.ext'
  rw [toList_madeCells_one]

theorem infoU8 : (Try.prog.info? 5).map (fun i => (i.zero, i.size, i.bytes)) = some (some (.int .u8 0), 1, 1) := by kernel_rfl

set_option maxRecDepth 100000 in
set_option maxHeartbeats 4000000 in
theorem name_any (n l : Nat) (hn : n ≤ 4096) (hl0 : 1 ≤ l) (hl : l ≤ 64) (w : World) :
    Calls Try.prog 15 #[.int .i64 (n : Int), .int .i64 (l : Int)] w fun e w' => e = .returned (.string (nm l n)) ∧ Below w.heap.size w w' := by
  have hmk := run_make_row' (P := Try.prog) 32 5 (.int .u8 0) 1 Try.underlying32 infoU8 rfl .i64 .i64 l (by omega) (by omega)
  rw [madeCells_zero] at hmk
  go_enter Try.func15, Try.ntmps15
  go_wp2
  go_loopw [0, 6] (fun a i wr => ∃ k : Nat, k ≤ l ∧ a = .int .i64 (dv n k : Int) ∧ i = .int .i64 (k : Int) ∧ dv n k ≤ 4096 ∧ Blk wr w.heap.size 5 (fillA l k n) ∧ Below w.heap.size w wr) (fun _ i _ => l - (intOf i).toNat)
  case atStart =>
    refine ⟨0, by omega, by rw [dv_zero], rfl, by rw [dv_zero]; omega, ?_, (Below.refl _ _).alloc (Nat.le_refl _) _⟩
    rw [fillA_zero]
    exact Blk.new w 5 _
  case round =>
    obtain ⟨k, hk, rfl, rfl, hd, hB, hb⟩ := hrel
    by_cases hlt : k < l
    · have hc : wr.cell? ⟨w.heap.size, k, none⟩ = (fillA l k n)[k]? := hB.cell k
      have hf : wr.frozen? ⟨w.heap.size, k, none⟩ = false := hB.frozen k
      have hx : ∃ u, (fillA l k n)[k]? = some (.int .u8 u) := by
        unfold fillA
        have e : l - k = (l - (k + 1)) + 1 := by omega
        rw [e, List.replicate_succ]
        refine ⟨0, ?_⟩
        simp [nmL_length]
      obtain ⟨u, hu⟩ := hx
      rw [hu] at hc
      clear hu
      have E := Lib.hid (fillA_step l k n hlt)
      have D := Lib.hid (dv_succ n k)
      go_wp2
      go_roundw
      case rel =>
        refine ⟨k + 1, by omega, ?_, by go_num, by rw [D.out]; omega, ?_, hb.setCell (Nat.le_refl _) _⟩
        · rw [D.out]; rfl
        · rw [← E.out]; exact hB.set_ k _
      case measure => simp [intOf]; omega
    · obtain rfl : k = l := by omega
      have hcv := run_convert_bytes_back (P := Try.prog) wr 32 9 5 ⟨w.heap.size, 0, none⟩ k (nmL k n) Try.underlying32 Try.underlying5 Try.underlying9 (by
        intro j hj
        rw [nmL_length] at hj
        have := hB.cell j
        rw [fillA_done] at this
        have ea : (⟨w.heap.size, 0, none⟩ : Addr).add j = ⟨w.heap.size, j, none⟩ := by
          unfold Addr.add
          split
          · rename_i h0; subst h0; rfl
          · simp
        rw [ea, this]
        simp [byteV, nmL_length, hj])
      rw [nmL_length] at hcv
      have HB := Lib.hid hB
      clear hB hk
      go_wp2
      go_ret
      exact ⟨rfl, hb⟩
end Go.Proofs.Ytnomnkohhfkdnaa.At
