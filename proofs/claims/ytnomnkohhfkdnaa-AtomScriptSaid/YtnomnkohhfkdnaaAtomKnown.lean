/- The law AtomKnown returns true: the chapter's examples are answered as it says. -/
import Derived.Test.YtnomnkohhfkdnaaLaw06
import Derived.Laws.IdiomStrings
import Derived.Deep.OwnRows
namespace Go.Proofs.Ytnomnkohhfkdnaa.AtomKnown
open Go.RowKit K At
open Go.ChangeShapes Go.WideShapes Go.ChangeAt
set_option linter.unusedVariables false
set_option linter.unusedSimpArgs false

theorem name_st_yes {B : Nat} {w0 : World} {g : Nat} {L : List ByteArray} {w : World} (h : St B w0 g L w) (n : Nat) (s : ByteArray) (hn : L[n]? = some s) :
    Calls Try.prog 10 #[.pointer (some ⟨g, 0, none⟩), .int .i64 (n : Int)] w fun e w' => e = .returned (.tuple #[.string s, .int .i64 0]) ∧ w = w' := by
  obtain ⟨h1, h2, F, hT, hF⟩ := h
  exact name_yes g L n s w F hT hn
theorem name_st_no {B : Nat} {w0 : World} {g : Nat} {L : List ByteArray} {w : World} (h : St B w0 g L w) (n : Int) (hn : n < 0 ∨ (L.length : Int) ≤ n) :
    Calls Try.prog 10 #[.pointer (some ⟨g, 0, none⟩), .int .i64 n] w fun e w' => e = .returned (.tuple #[.string ByteArray.empty, .int .i64 5]) ∧ w = w' := by
  obtain ⟨h1, h2, F, hT, hF⟩ := h
  exact name_no g L n w F hT hn
theorem find_st {B : Nat} {w0 : World} {g : Nat} {L : List ByteArray} {w : World} (h : St B w0 g L w) (s : ByteArray) (hs : s.size ≤ maxLen) {n : Int} {b : Bool} (hf : fdN L s = n ∧ fdB L s = b) :
    Calls Try.prog 11 #[.pointer (some ⟨g, 0, none⟩), .string s] w fun e w' => e = .returned (.tuple #[.int .i64 n, .bool b]) ∧ w = w' := by
  obtain ⟨h1, h2, F, hT, hF⟩ := h
  obtain ⟨rfl, rfl⟩ := hf
  exact find_any g L s w F hT hs
def big65 : ByteArray := ⟨(List.replicate 65 (0 : UInt8)).toArray⟩
theorem big_size : big65.size = 65 := by decide +kernel
theorem f1 : fdN [tA, tB] ⟨#[98]⟩ = 1 ∧ fdB [tA, tB] ⟨#[98]⟩ = true := by decide +kernel
theorem f2 : fdN [tA, tB] ⟨#[99]⟩ = 0 ∧ fdB [tA, tB] ⟨#[99]⟩ = false := by decide +kernel
theorem f3 : inN [tA, tB] big65 = 0 ∧ inE [tA, tB] big65 = 2 ∧ inL [tA, tB] big65 = [tA, tB] := by
  have h : 64 < big65.size := by rw [big_size]; omega
  refine ⟨?_, ?_, ?_⟩
  · unfold inN; rw [if_pos h]
  · unfold inE; rw [if_pos h]
  · unfold inL; rw [if_pos h]
theorem f4 : intB [tA, tB] ⟨#[]⟩ 2 = true ∧ inL [tA, tB] ⟨#[]⟩ = [tA, tB, ⟨#[]⟩] := by decide +kernel
theorem intern_big {B : Nat} {w0 : World} {g : Nat} {w : World} (h : St B w0 g [tA, tB] w) :
    Calls Try.prog 12 #[.pointer (some ⟨g, 0, none⟩), .string big65] w fun e w' => e = .returned (.tuple #[.int .i64 0, .int .i64 2]) ∧ St B w0 g [tA, tB] w' := by
  have h0 := intern_st B w0 g [tA, tB] big65 w h (by rw [big_size]; unfold maxLen; omega)
  rw [f3.1, f3.2.1, f3.2.2] at h0
  exact h0
theorem infoU8 : (Try.prog.info? 5).map (fun i => (i.zero, i.size, i.bytes)) = some (some (.int .u8 0), 1, 1) := by kernel_rfl
def zeros65 : Array Value := (List.replicate 65 (Value.int .u8 0)).toArray
theorem make65 (w : World) : (Instr.makeSlice 32 (.int .i64 65) (.int .i64 65)).run Try.prog w = .ok (.slice (some ⟨w.heap.size, 0, none⟩) 65 65) (w.alloc (.cells zeros65 5)) := by
  have h := run_make_row' (P := Try.prog) 32 5 (.int .u8 0) 1 Try.underlying32 infoU8 rfl .i64 .i64 65 (by omega) (by omega) w
  have e : madeCells #[Value.int .u8 0] 65 = zeros65 := by
    apply Array.ext'
    rw [toList_madeCells_one]
    rfl
  rw [e] at h
  exact h
theorem convN (n : Nat) (w : World) : (convert 32 9 (.slice (some ⟨w.heap.size, 0, none⟩) n n)).run Try.prog (w.alloc (.cells (List.replicate n (Value.int .u8 0)).toArray 5)) =
    .ok (.string ⟨(List.replicate n (0 : UInt8)).toArray⟩) (w.alloc (.cells (List.replicate n (Value.int .u8 0)).toArray 5)) := by
  have h := run_convert_bytes_back (P := Try.prog) (w.alloc (.cells (List.replicate n (Value.int .u8 0)).toArray 5)) 32 9 5 ⟨w.heap.size, 0, none⟩ n (List.replicate n (0 : UInt8)) Try.underlying32 Try.underlying5 Try.underlying9 (by
    intro j hj
    have hj' : j < n := by simpa using hj
    have hB := Blk.new w 5 (List.replicate n (Value.int .u8 0)).toArray
    have := hB.cell j
    have ea : (⟨w.heap.size, 0, none⟩ : Addr).add j = ⟨w.heap.size, j, none⟩ := by
      unfold Addr.add
      split
      · rename_i h0; subst h0; rfl
      · simp
    rw [ea, this]
    simp [hj'])
  rw [List.length_replicate] at h
  exact h
theorem conv65 (w : World) : (convert 32 9 (.slice (some ⟨w.heap.size, 0, none⟩) 65 65)).run Try.prog (w.alloc (.cells zeros65 5)) = .ok (.string big65) (w.alloc (.cells zeros65 5)) := convN 65 w

set_option maxRecDepth 100000 in
set_option maxHeartbeats 8000000 in
theorem walk (w : World) : Calls Try.prog 3 #[] w fun e w' => e = .returned (.bool true) ∧ Below w.heap.size w w' := by
  have hmk := make65
  have hcv := conv65
  go_enter Try.func3, Try.ntmps3
  go_wp2_with (go_at_call 8; refine (new_any _).mono ?_; rintro e w1 ⟨g, rfl, hT, hb⟩; have hS := St.made hT hb; clear hT hb)
  refine (interned_yes hS (by decide) i1).mono ?_
  rintro e w2 ⟨rfl, hS2⟩
  clear hS
  go_wp2_with fail
  refine (interned_yes hS2 (by decide) i2).mono ?_
  rintro e w3 ⟨rfl, hS3⟩
  clear hS2
  go_wp2_with fail
  refine (name_st_yes hS3 1 ⟨#[98]⟩ rfl).mono ?_
  rintro e w4 ⟨rfl, rfl⟩
  go_wp2_with fail
  refine (name_st_no hS3 2 (by simp)).mono ?_
  rintro e w4 ⟨rfl, rfl⟩
  go_wp2_with fail
  refine (find_st hS3 ⟨#[98]⟩ (by decide) f1).mono ?_
  rintro e w4 ⟨rfl, rfl⟩
  go_wp2_with fail
  refine (find_st hS3 ⟨#[99]⟩ (by decide) f2).mono ?_
  rintro e w4 ⟨rfl, rfl⟩
  go_wp2_with fail
  have hS4 := hS3.grown ((Below.refl _ _).alloc (Nat.le_refl _) (.cells zeros65 5))
  clear hS3
  refine (intern_big hS4).mono ?_
  rintro e w5 ⟨rfl, hS5⟩
  clear hS4
  go_wp2_with fail
  refine (awake_any _).mono ?_
  rintro e w6 ⟨rfl, hb6⟩
  have hS6 := hS5.grown hb6
  clear hS5 hb6
  go_wp2_with fail
  refine (interned_yes hS6 (by decide) f4).mono ?_
  rintro e w7 ⟨rfl, hS7⟩
  clear hS6
  go_wp2_with fail
  go_ret
  exact ⟨ret1_b rfl, hS7.1⟩

theorem contract (W : World) : Calls Try.prog 3 #[] W fun e w' => e = .returned (.bool true) ∧ Below W.heap.size W w' := walk W

theorem own : ownKnob Try.prog.godebug = none := by kernel_rfl
theorem laidOut : laidOutB Try.prog = true := by kernel_rfl
theorem readable : ∀ t ∈ Try.f3.params.toList, Try.prog.readableRec t = true ∧ t < Try.prog.types.size := by
  rw [show Try.f3.params = #[] from Try.params3]
  intro t h; simp at h
set_option maxRecDepth 100000 in
theorem lifted (os : Os) (started : os.Started) (H : Type) (enc : TypeId × Value → H) :
    ReturnsInHanded {} Try.checked os 3 .any (Rows.atomKnownSpec.pre6 enc Try.prog Try.f3 Rows.atomKnownRow.domain false) (Rows.atomKnownSpec.post enc Try.prog Try.f3 false true false false) := by
  refine K.law_lift (C := Try.checked) (b := 4) own started (by kernel_rfl) Try.func3
    (ChangeSpec.witness6 (enc := enc) (C := Try.checked) false ⟨#[], #[], []⟩ 8 (by kernel_rfl) (by kernel_rfl) (by kernel_rfl) (by kernel_rfl)) laidOut readable rfl rfl Try.underlying4 ?_ ?_
  · intro ds hds
    rw [show Try.f3.params = #[] from Try.params3] at hds
    match ds, hds with
    | [], _ => rfl
  · intro W base args ds p hval hA hlt hsz
    rw [show Try.checked.prog = Try.prog from rfl] at hval hA hsz
    rw [show Try.f3.params = #[] from Try.params3] at hA hval hsz
    obtain ⟨hargs, rfl, rfl⟩ := trodAll_nil hA
    obtain rfl : args = #[] := by cases args; simp_all
    exact contract W

theorem over : Rows.atomKnownRow.holds Try.pinned (OpenSpec.ofChange Rows.atomKnownSpec) :=
  OpenClaim.holds_of_wide 3 Try.f3 rfl rfl rfl rfl rfl rfl rfl ⟨rfl, rfl, rfl, rfl, rfl⟩ rfl rfl rfl rfl rfl (by kernel_rfl) Try.func3 (by kernel_rfl)
    (of_decide_eq_true (by kernel_rfl)) (by unfold Func.isWrapper; rw [if_neg (of_decide_eq_false (by kernel_rfl))]; exact ⟨rfl, rfl⟩)
    (fun os started H enc _ => lifted os started H enc)

/-- THE STATEMENT -/
theorem proved : Rows.AtomKnownSaid := over
#print axioms proved
end Go.Proofs.Ytnomnkohhfkdnaa.AtomKnown
