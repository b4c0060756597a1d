/- Sixty-five zero bytes, made and read as a text. -/
import Derived.Test.YtiknelmaepkdkaaLawKit
import Derived.Test.YtiknelmaepkdkaaKeep
import Derived.Laws.IdiomStrings
import Derived.Deep.OwnRows
namespace Go.Proofs.Ytiknelmaepkdkaa.K
open Go.RowKit
open Go.ChangeShapes Go.WideShapes
set_option linter.unusedVariables false
set_option linter.unusedSimpArgs false

def big65 : ByteArray := ⟨(List.replicate 65 (0 : UInt8)).toArray⟩
theorem big_size : big65.size = 65 := by decide +kernel
theorem infoU8 : (Try.prog.info? 5).map (fun i => (i.zero, i.size, i.bytes)) = some (some (.int .u8 0), 1, 1) := by kernel_rfl
def zeros65 : Array Value := (List.replicate 65 (Value.int .u8 0)).toArray
theorem make65 (w : World) : (Instr.makeSlice 46 (.int .i64 65) (.int .i64 65)).run Try.prog w = .ok (.slice (some ⟨w.heap.size, 0, none⟩) 65 65) (w.alloc (.cells zeros65 5)) := by
  have h := run_make_row' (P := Try.prog) 46 5 (.int .u8 0) 1 Try.underlying46 infoU8 rfl .i64 .i64 65 (by omega) (by omega) w
  have e : madeCells #[Value.int .u8 0] 65 = zeros65 := by
    apply Array.ext'
    rw [toList_madeCells_one]
    rfl
  rw [e] at h
  exact h
theorem convN (n : Nat) (w : World) : (convert 46 9 (.slice (some ⟨w.heap.size, 0, none⟩) n n)).run Try.prog (w.alloc (.cells (List.replicate n (Value.int .u8 0)).toArray 5)) =
    .ok (.string ⟨(List.replicate n (0 : UInt8)).toArray⟩) (w.alloc (.cells (List.replicate n (Value.int .u8 0)).toArray 5)) := by
  have h := run_convert_bytes_back (P := Try.prog) (w.alloc (.cells (List.replicate n (Value.int .u8 0)).toArray 5)) 46 9 5 ⟨w.heap.size, 0, none⟩ n (List.replicate n (0 : UInt8)) Try.underlying46 Try.underlying5 Try.underlying9 (by
    intro j hj
    have hj' : j < n := by simpa using hj
    have hB := Blk.new w 5 (List.replicate n (Value.int .u8 0)).toArray
    have := hB.cell j
    have ea : (⟨w.heap.size, 0, none⟩ : Addr).add j = ⟨w.heap.size, j, none⟩ := by
      unfold Addr.add
      split
      · rename_i h0; subst h0; rfl
      · simp
    rw [ea, this]
    simp [hj'])
  rw [List.length_replicate] at h
  exact h
theorem conv65 (w : World) : (convert 46 9 (.slice (some ⟨w.heap.size, 0, none⟩) 65 65)).run Try.prog (w.alloc (.cells zeros65 5)) = .ok (.string big65) (w.alloc (.cells zeros65 5)) := convN 65 w

end Go.Proofs.Ytiknelmaepkdkaa.K
