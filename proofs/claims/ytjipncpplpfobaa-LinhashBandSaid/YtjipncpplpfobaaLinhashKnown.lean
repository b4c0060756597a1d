/- The law LinhashKnown returns true: the chapter's examples of buckets are answered as it says. -/
import Derived.Test.YtjipncpplpfobaaLaw10
namespace Go.Proofs.Ytjipncpplpfobaa.LinhashKnown
open Go.RowKit K Hs Lb
open Go.ChangeShapes Go.WideShapes Go.ChangeAt
set_option linter.unusedVariables false
set_option linter.unusedSimpArgs false

def L3 : List (List It) := [[(0, 5), (2, 6)], [(1, 7), (3, 8)]]
def L4 : List (List It) := [[(0, 5), (2, 6), (4, 9)], [(1, 7), (3, 8)]]
def L5 : List (List It) := [[(0, 5), (4, 9)], [(1, 7), (3, 8)], [(2, 6)]]
def L6 : List (List It) := [[(0, 5), (4, 9), (2, 6)], [(1, 7), (3, 8)]]
def L7 : List (List It) := [[(4, 9), (2, 6)], [(1, 7), (3, 8)]]
theorem ok3 : Ok 4 L3 := ⟨by decide, by decide, by decide, by decide, by decide, by decide⟩
theorem ok4 : Ok 5 L4 := ⟨by decide, by decide, by decide, by decide, by decide, by decide⟩
theorem ok5 : Ok 5 L5 := ⟨by decide, by decide, by decide, by decide, by decide, by decide⟩
theorem ok6 : Ok 5 L6 := ⟨by decide, by decide, by decide, by decide, by decide, by decide⟩
theorem ok7 : Ok 4 L7 := ⟨by decide, by decide, by decide, by decide, by decide, by decide⟩
theorem e3 : addL L2 (bk 3 L2.length) (3, 8) = L3 := by kernel_rfl
theorem e4 : addL L3 (bk 4 L3.length) (4, 9) = L4 := by kernel_rfl
theorem e5 : splitL L4 = L5 := by kernel_rfl
theorem e6 : joinL L5 = L6 := by kernel_rfl
theorem e7 : remL L6 (bk 0 L6.length) (0, 5) = L7 := by kernel_rfl
theorem e8 : remL L7 (bk 0 L7.length) (0, 5) = L7 := by kernel_rfl
theorem h7 : hasI (L6.getD (bk 0 L6.length) []) (0, 5) = true := by kernel_rfl
theorem h8 : hasI (L7.getD (bk 0 L7.length) []) (0, 5) = false := by kernel_rfl
set_option maxRecDepth 100000 in
set_option maxHeartbeats 16000000 in
theorem walk (w : World) : Calls Try.prog 5 #[] w fun e w' => e = .returned (.bool true) ∧ Below w.heap.size w w' := by
  go_enter Try.func5, Try.ntmps5
  go_wp2_with fail
  refine (two_any w).mono ?_
  rintro e w1 ⟨g, rfl, hS⟩
  have HS1 := Lib.hid hS
  clear hS
  go_wp2_with fail
  refine (awake_any w1).mono ?_
  rintro e w2 ⟨rfl, hb⟩
  have HS2 := Lib.hid (HS1.out.later hb)
  clear hb
  go_wp2_with fail
  have H := added_yes HS2.out Ok2 3 8 1 (by decide) (by decide) (by kernel_rfl)
  rw [e3] at H
  refine H.mono ?_
  rintro e w3 ⟨rfl, hS⟩
  have HS3 := Lib.hid hS
  clear hS H
  go_wp2_with fail
  have H := st_wants HS3.out ok3
  rw [show wantsI 2 (3 + 1) L3.length = 0 from by kernel_rfl] at H
  refine H.mono ?_
  rintro e w4 ⟨rfl, d4, rfl⟩
  have HS4 := Lib.hid (HS3.out.drewN d4)
  clear H
  go_wp2_with fail
  have H := added_yes HS4.out ok3 4 9 0 (by decide) (by decide) (by kernel_rfl)
  rw [e4] at H
  refine H.mono ?_
  rintro e w5 ⟨rfl, hS⟩
  have HS5 := Lib.hid hS
  clear hS H
  go_wp2_with fail
  have H := st_wants HS5.out ok4
  rw [show wantsI 2 (3 + 1 + 1) L4.length = 1 from by kernel_rfl] at H
  refine H.mono ?_
  rintro e w6 ⟨rfl, d6, rfl⟩
  have HS6 := Lib.hid (HS5.out.drewN d6)
  clear H
  go_wp2_with fail
  have H := st_split HS6.out ok4
  rw [e5] at H
  refine H.mono ?_
  rintro e w7 ⟨rfl, hS⟩
  have HS7 := Lib.hid hS
  clear hS H
  go_wp2_with fail
  obtain ⟨W8, hW8⟩ : ∃ W8, ((w7.alloc (.cells #[.int .u32 0, .int .i64 5] 54)).alloc (.cells #[.int .u32 4, .int .i64 9] 54)).alloc (.cells #[.int .u32 2, .int .i64 6] 54) = W8 := ⟨_, rfl⟩
  have hb8 : Below w7.heap.size w7 W8 := by rw [← hW8]; exact (((Below.refl _ _).alloc (Nat.le_refl _) _).alloc (by simp) _).alloc (by simp; omega) _
  have hz8 : W8.heap.size = w7.heap.size + 3 := by rw [← hW8]; simp
  obtain ⟨b, hbq⟩ : ∃ b, w7.heap.size = b := ⟨_, rfl⟩
  have HS8 := Lib.hid (HS7.out.base (X' := fun k => k = b ∨ k = b + 1 ∨ k = b + 1 + 1) hb8 (fun k hk => by omega))
  have B5 : Blk W8 b 54 #[.int .u32 0, .int .i64 5] := by rw [← hW8, ← hbq]; exact ((Blk.new _ _ _).alloc _).alloc _
  have B9 : Blk W8 (b + 1) 54 #[.int .u32 4, .int .i64 9] := by
    rw [← hW8, ← hbq]
    have := (Blk.new (w7.alloc (.cells #[.int .u32 0, .int .i64 5] 54)) 54 #[.int .u32 4, .int .i64 9]).alloc (.cells #[.int .u32 2, .int .i64 6] 54)
    simpa using this
  have B6 : Blk W8 (b + 1 + 1) 54 #[.int .u32 2, .int .i64 6] := by
    rw [← hW8, ← hbq]
    have := (Blk.new ((w7.alloc (.cells #[.int .u32 0, .int .i64 5] 54)).alloc (.cells #[.int .u32 4, .int .i64 9] 54)) 54 #[.int .u32 2, .int .i64 6])
    simpa using this
  have HBX := Lib.hid (show ∀ (least : Nat) (cnt : Int) (L : List (List It)) (W : World), St (fun k => (k = b ∨ k = b + 1 ∨ k = b + 1 + 1) ∨ k < w.heap.size) W8 g least cnt L W →
      (W.cell? ⟨b, 0, none⟩ = some (.int .u32 0) ∧ W.cell? ⟨b, 1, none⟩ = some (.int .i64 5)) ∧ (W.cell? ⟨b + 1, 0, none⟩ = some (.int .u32 4) ∧ W.cell? ⟨b + 1, 1, none⟩ = some (.int .i64 9)) ∧ W.cell? ⟨b + 1 + 1, 0, none⟩ = some (.int .u32 2) ∧ W.cell? ⟨b + 1 + 1, 1, none⟩ = some (.int .i64 6) from fun least cnt L W h => by
    refine ⟨⟨(h.cell (p := ⟨b, 0, none⟩) (.inl (.inl rfl))).trans ?_, (h.cell (p := ⟨b, 1, none⟩) (.inl (.inl rfl))).trans ?_⟩, ⟨(h.cell (p := ⟨b + 1, 0, none⟩) (.inl (.inr (.inl rfl)))).trans ?_, (h.cell (p := ⟨b + 1, 1, none⟩) (.inl (.inr (.inl rfl)))).trans ?_⟩, (h.cell (p := ⟨b + 1 + 1, 0, none⟩) (.inl (.inr (.inr rfl)))).trans ?_, (h.cell (p := ⟨b + 1 + 1, 1, none⟩) (.inl (.inr (.inr rfl)))).trans ?_⟩
    · rw [B5.cell]; rfl
    · rw [B5.cell]; rfl
    · rw [B9.cell]; rfl
    · rw [B9.cell]; rfl
    · rw [B6.cell]; rfl
    · rw [B6.cell]; rfl)
  have HBL := Lib.hid (show Below w.heap.size w W8 from (HS7.out.below (Nat.le_refl _)).trans (hb8.mono (by have := HS7.out.1.size; omega)))
  rw [hW8]
  rw [hbq]
  clear hb8 hz8 hbq B5 B9 B6 hW8 HS1 HS2 HS3 HS4 HS5 HS6 HS7
  have H := st_count HS8.out
  rw [show ((L5.length : Nat) : Int) = 3 from rfl] at H
  refine H.mono ?_
  rintro e w' ⟨rfl, rfl⟩
  clear H
  obtain ⟨⟨a0, a1⟩, ⟨b0, b1⟩, c0, c1⟩ := HBX.out _ _ _ _ HS8.out
  go_wp2_with fail
  have hba := (Below.refl W8.heap.size W8).alloc (Nat.le_refl _) (.cells #[.int .u32 0, .int .i64 5, .int .u32 4, .int .i64 9] 54)
  have H : Calls Try.prog 23 #[.pointer (some ⟨g, 0, none⟩), .int .i64 0, .slice (some ⟨W8.heap.size, 0, none⟩) 2 2] (W8.alloc (.cells #[.int .u32 0, .int .i64 5, .int .u32 4, .int .i64 9] 54)) fun e w' => e = .returned (.bool true) ∧ Below (W8.alloc (.cells #[.int .u32 0, .int .i64 5, .int .u32 4, .int .i64 9] 54)).heap.size (W8.alloc (.cells #[.int .u32 0, .int .i64 5, .int .u32 4, .int .i64 9] 54)) w' :=
    has_yes (HS8.out.later hba) ok5 0 [(0, 5), (4, 9)] rfl _ 2 ((rdI_alloc W8 [(0, 5), (4, 9)]).more (by simp))
  have HSx := Lib.hid (HS8.out.later hba)
  refine H.mono ?_
  rintro e w9 ⟨rfl, hb⟩
  have HS9 := Lib.hid (HSx.out.later hb)
  clear H HSx hba hb a0 a1 b0 b1 c0 c1
  obtain ⟨⟨a0, a1⟩, ⟨b0, b1⟩, c0, c1⟩ := HBX.out _ _ _ _ HS9.out
  go_wp2_with fail
  have hba := (Below.refl w9.heap.size w9).alloc (Nat.le_refl _) (.cells #[.int .u32 2, .int .i64 6] 54)
  have H : Calls Try.prog 23 #[.pointer (some ⟨g, 0, none⟩), .int .i64 2, .slice (some ⟨w9.heap.size, 0, none⟩) 1 1] (w9.alloc (.cells #[.int .u32 2, .int .i64 6] 54)) fun e w' => e = .returned (.bool true) ∧ Below (w9.alloc (.cells #[.int .u32 2, .int .i64 6] 54)).heap.size (w9.alloc (.cells #[.int .u32 2, .int .i64 6] 54)) w' :=
    has_yes (HS9.out.later hba) ok5 2 [(2, 6)] rfl _ 1 ((rdI_alloc w9 [(2, 6)]).more (by simp))
  have HSx := Lib.hid (HS9.out.later hba)
  refine H.mono ?_
  rintro e w10 ⟨rfl, hb⟩
  have HS10 := Lib.hid (HSx.out.later hb)
  clear H HSx hba hb a0 a1 b0 b1 c0 c1
  go_wp2_with fail
  have H := st_wants HS10.out ok5
  rw [show wantsI 2 (3 + 1 + 1) L5.length = 0 from by kernel_rfl] at H
  refine H.mono ?_
  rintro e w11 ⟨rfl, d11, rfl⟩
  have HS11 := Lib.hid (HS10.out.drewN d11)
  clear H
  go_wp2_with fail
  have H := st_join HS11.out ok5 (by decide) (by decide)
  rw [e6] at H
  refine H.mono ?_
  rintro e w12 ⟨rfl, hS⟩
  have HS12 := Lib.hid hS
  clear hS H
  obtain ⟨⟨a0, a1⟩, ⟨b0, b1⟩, c0, c1⟩ := HBX.out _ _ _ _ HS12.out
  go_wp2_with fail
  have hba := (Below.refl w12.heap.size w12).alloc (Nat.le_refl _) (.cells #[.int .u32 0, .int .i64 5, .int .u32 4, .int .i64 9, .int .u32 2, .int .i64 6] 54)
  have H : Calls Try.prog 23 #[.pointer (some ⟨g, 0, none⟩), .int .i64 0, .slice (some ⟨w12.heap.size, 0, none⟩) 3 3] (w12.alloc (.cells #[.int .u32 0, .int .i64 5, .int .u32 4, .int .i64 9, .int .u32 2, .int .i64 6] 54)) fun e w' => e = .returned (.bool true) ∧ Below (w12.alloc (.cells #[.int .u32 0, .int .i64 5, .int .u32 4, .int .i64 9, .int .u32 2, .int .i64 6] 54)).heap.size (w12.alloc (.cells #[.int .u32 0, .int .i64 5, .int .u32 4, .int .i64 9, .int .u32 2, .int .i64 6] 54)) w' :=
    has_yes (HS12.out.later hba) ok6 0 [(0, 5), (4, 9), (2, 6)] rfl _ 3 ((rdI_alloc w12 [(0, 5), (4, 9), (2, 6)]).more (by simp))
  have HSx := Lib.hid (HS12.out.later hba)
  refine H.mono ?_
  rintro e w13 ⟨rfl, hb⟩
  have HS13 := Lib.hid (HSx.out.later hb)
  clear H HSx hba hb a0 a1 b0 b1 c0 c1
  go_wp2_with fail
  refine (st_at_no HS13.out 2 (.inr (by decide))).mono ?_
  rintro e w' ⟨rfl, rfl⟩
  go_wp2_with fail
  have H := st_rem HS13.out ok6 0 5 (by decide)
  rw [h7, e7] at H
  refine H.mono ?_
  rintro e w14 ⟨rfl, hS⟩
  have HS14 := Lib.hid hS
  clear hS H
  go_wp2_with fail
  have H := st_rem HS14.out ok7 0 5 (by decide)
  rw [h8, e8] at H
  refine H.mono ?_
  rintro e w15 ⟨rfl, hS⟩
  have HS15 := Lib.hid hS
  clear hS H
  go_wp2_with fail
  have H := st_join_no HS15.out (by decide)
  refine H.mono ?_
  rintro e w16 ⟨rfl, d16, rfl⟩
  have HS16 := Lib.hid (HS15.out.drewN d16)
  clear H
  go_wp2_with fail
  go_ret
  refine ⟨rfl, ?_⟩
  have h1 := HS16.out.1
  have h2 := HBL.out
  exact h2.trans (h1.to_below (Nat.le_trans h2.size (Nat.le_refl _)) (fun i _ hi => by
    rcases Nat.lt_or_ge i w.heap.size with h | h
    · exact absurd (.inr h) hi
    · exact h))
theorem contract (W : World) : Calls Try.prog 5 #[] W fun e w' => e = .returned (.bool true) ∧ Below W.heap.size W w' := walk W


theorem own : ownKnob Try.prog.godebug = none := by kernel_rfl
theorem laidOut : laidOutB Try.prog = true := by kernel_rfl
theorem readable : ∀ t ∈ Try.f5.params.toList, Try.prog.readableRec t = true ∧ t < Try.prog.types.size := by
  rw [show Try.f5.params = #[] from Try.params5]
  intro t h; simp at h
set_option maxRecDepth 100000 in
theorem lifted (os : Os) (started : os.Started) (H : Type) (enc : TypeId × Value → H) :
    ReturnsInHanded {} Try.checked os 5 .any (Rows.linhashKnownSpec.pre6 enc Try.prog Try.f5 Rows.linhashKnownRow.domain false) (Rows.linhashKnownSpec.post enc Try.prog Try.f5 false true false false) := by
  refine K.law_lift (C := Try.checked) (b := 4) own started (by kernel_rfl) Try.func5
    (ChangeSpec.witness6 (enc := enc) (C := Try.checked) false ⟨#[], #[], []⟩ 8 (by kernel_rfl) (by kernel_rfl) (by kernel_rfl) (by kernel_rfl)) laidOut readable rfl rfl Try.underlying4 ?_ ?_
  · intro ds hds
    rw [show Try.f5.params = #[] from Try.params5] at hds
    match ds, hds with
    | [], _ => rfl
  · intro W base args ds p hval hA hlt hsz
    rw [show Try.checked.prog = Try.prog from rfl] at hval hA hsz
    rw [show Try.f5.params = #[] from Try.params5] at hA hval hsz
    obtain ⟨hargs, rfl, rfl⟩ := trodAll_nil hA
    obtain rfl : args = #[] := by cases args; simp_all
    exact contract W

theorem over : Rows.linhashKnownRow.holds Try.pinned (OpenSpec.ofChange Rows.linhashKnownSpec) :=
  OpenClaim.holds_of_wide 5 Try.f5 rfl rfl rfl rfl rfl rfl rfl ⟨rfl, rfl, rfl, rfl, rfl⟩ rfl rfl rfl rfl rfl (by kernel_rfl) Try.func5 (by kernel_rfl)
    (of_decide_eq_true (by kernel_rfl)) (by unfold Func.isWrapper; rw [if_neg (of_decide_eq_false (by kernel_rfl))]; exact ⟨rfl, rfl⟩)
    (fun os started H enc _ => lifted os started H enc)

/-- THE STATEMENT -/
theorem proved : Rows.LinhashKnownSaid := over
#print axioms proved
end Go.Proofs.Ytjipncpplpfobaa.LinhashKnown
