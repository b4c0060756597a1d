/- linhash: New, none, of, Len, Count, Wants, each by its contract. -/
import Derived.Test.YtjipncpplpfobaaLbSpec
import Derived.Test.YtjipncpplpfobaaBucket
import Derived.Laws.CopyOwn
import Derived.Deep.OwnRows
import Derived.Deep.RegionHeld3
import Derived.Deep.QuietTactic
import Derived.BigQuiet
import Derived.IntWalk
namespace Go.Proofs.Ytjipncpplpfobaa.Lb
open Go.RowKit K Hs
set_option linter.unusedVariables false
set_option linter.unusedSimpArgs false

theorem infoII : (Try.prog.info? 43).map (fun i => (i.zero, i.size, i.bytes)) = some (some (.slice none 0 0), 1, 24) := by kernel_rfl
theorem infoI : (Try.prog.info? 54).map (fun i => (i.zero, i.size, i.bytes)) = some (some (.agg #[.int .u32 0, .int .i64 0]), 2, 16) := by kernel_rfl
theorem drew2 (w : World) (a b : Nat) : ∃ d, (w.drewN a).drewN b = w.drewN d := ⟨a + b, by simp [World.drewN, Nat.add_assoc]⟩
/-- The bucket of a hash. -/
def bk (h : Int) (m : Nat) : Nat := (bktI h (m : Int)).toNat
theorem bk_lt {h : Int} {m : Nat} (h1 : 1 ≤ m) (h2 : m ≤ 1048576) : bk h m < m := by
  have := bktI_range (g := h) (n := (m : Int)) (by omega) (by omega)
  unfold bk; omega
theorem bk_int {h : Int} {m : Nat} (h1 : 1 ≤ m) (h2 : m ≤ 1048576) : bktV h (m : Int) = ((bk h m : Nat) : Int) := by
  have := bktI_range (g := h) (n := (m : Int)) (by omega) (by omega)
  unfold bktV
  rw [if_neg (by omega)]
  unfold bk; omega
theorem bk_ok {m : Nat} (h1 : 1 ≤ m) (h2 : m ≤ 1048576) : bktE (m : Int) = 0 := by
  unfold bktE
  rw [if_neg (by omega)]

theorem none_no (g : Nat) (gr m c : Nat) (w : World) (h : w.cell? ⟨g, 2, none⟩ = some (.slice (some ⟨gr, 0, none⟩) m c)) :
    Calls Try.prog 37 #[.pointer (some ⟨g, 0, none⟩)] w fun e w' => e = .returned (.bool false) ∧ w = w' := by
  have hm := fun (w : World) => Lib.run_eql_slice_nil (P := Try.prog) w 37 43 (some ⟨gr, 0, none⟩) m c 0 0 Try.underlying37
  go_enter Try.func37, Try.ntmps37
  go_wp2
  go_ret
  exact ⟨ret1_b rfl, rfl⟩
theorem of_any (g gr m c : Nat) (h : Int) (w : World) (hc : w.cell? ⟨g, 2, none⟩ = some (.slice (some ⟨gr, 0, none⟩) m c)) (h0 : 0 ≤ h) (h1 : h ≤ 4294967295) (m1 : 1 ≤ m) (m2 : m ≤ 1048576) :
    Calls Try.prog 38 #[.pointer (some ⟨g, 0, none⟩), .int .u32 h] w fun e w' => e = .returned (.int .i64 (bk h m : Int)) ∧ w = w' := by
  have HB := Lib.hid (fun w => bucket_any h (m : Int) w h0 h1)
  have HE := Lib.hid (bk_int (h := h) m1 m2)
  have HK := Lib.hid (bk_ok m1 m2)
  rw [HE.out, HK.out] at HB
  clear h0 h1 m1 m2
  go_enter Try.func38, Try.ntmps38
  go_wp2_with (first | (go_at_call 43; refine (HB.out _).mono ?_; rintro e w' ⟨rfl, rfl⟩) | fail)
  go_ret
  exact ⟨rfl, rfl⟩

/-! ### New -/
def IsNew (w : World) (n : Nat) (e : Ending) (w' : World) : Prop :=
  ∃ g, e = .returned (.tuple #[.pointer (some ⟨g, 0, none⟩), .int .i64 0]) ∧ (∃ gr cap, LB w' (fun k => w.heap.size ≤ k ∧ k < w'.heap.size) g n 0 gr cap (List.replicate n [])) ∧ Below w.heap.size w w'
set_option maxRecDepth 100000 in
set_option maxHeartbeats 4000000 in
theorem new_yes (n : Nat) (h1 : 1 ≤ n) (h2 : n ≤ 1024) (w : World) : Calls Try.prog 7 #[.int .i64 (n : Int)] w (IsNew w n) := by
  have HMK := fun w => run_make_row' (P := Try.prog) 37 43 (.slice none 0 0) 24 Try.underlying37 infoII rfl .i64 .i64 n (by omega) (by omega) w
  have e0 : madeCells #[Value.slice none 0 0] n = (List.replicate n (Value.slice none 0 0)).toArray := by
    apply Array.ext'
    rw [toList_madeCells_one]
  have hmk : ∀ w, (Instr.makeSlice 37 (.int .i64 (n : Int)) (.int .i64 (n : Int))).run Try.prog w = .ok (.slice (some ⟨w.heap.size, 0, none⟩) n n) (w.alloc (.cells (List.replicate n (Value.slice none 0 0)).toArray 43)) := fun w => by
    rw [← e0]; exact HMK w
  clear HMK e0
  obtain ⟨cs, hcs⟩ : ∃ cs, (List.replicate n (Value.slice none 0 0)).toArray = cs := ⟨_, rfl⟩
  have c1 : (1 : Int) ≤ (n : Int) := by omega
  have c2 : (n : Int) ≤ 1024 := by omega
  rw [hcs] at hmk
  have HC := Lib.hid hcs
  clear hcs
  go_enter Try.func7, Try.ntmps7
  go_wp2
  go_ret2
  have hR := Rws.make w n (by unfold maxLen; omega)
  rw [HC.out] at hR
  have hk : Keep (fun k => w.heap.size + 1 ≤ k) (w.alloc (.cells cs 43)) ((w.alloc (.cells cs 43)).alloc (.cells #[.int .i64 (n : Int), .int .i64 0, .slice (some ⟨w.heap.size, 0, none⟩) n n] 39)) := (Keep.refl _ _).alloc _
  refine ⟨w.heap.size + 1, rfl, ⟨w.heap.size, n, fun k hk => hk.2, by simp, ?_, (hR.keep hk (fun r hr => by omega)).mono (fun k hk => by subst hk; simp; omega)⟩, ((Below.refl _ _).alloc (Nat.le_refl _) _).alloc (by simp) _⟩
  rw [List.length_replicate]
  have := Blk.new (w.alloc (.cells cs 43)) 39 #[.int .i64 (n : Int), .int .i64 0, .slice (some ⟨w.heap.size, 0, none⟩) n n]
  simpa using this
theorem new_no (n : Int) (hn : (Lit.int .i64 n).wf = true) (h : n < 1 ∨ 1024 < n) (w : World) :
    Calls Try.prog 7 #[.int .i64 n] w fun e w' => e = .returned (.tuple #[.pointer none, .int .i64 2]) ∧ w = w' := by
  obtain ⟨n1, n2⟩ := bounds_i64 hn
  by_cases h1 : n < 1
  · clear h
    go_enter Try.func7, Try.ntmps7
    go_wp2
    go_ret2
    exact ⟨rfl, rfl⟩
  · have h2 : 1024 < n := by omega
    clear h
    go_enter Try.func7, Try.ntmps7
    go_wp2
    go_ret2
    exact ⟨rfl, rfl⟩

/-! ### Len, Count, Wants -/
section
variable {w : World} {G : Nat → Prop} {g least gr cap : Nat} {cnt : Int} {L : List (List It)}
theorem len_any (h : LB w G g least cnt gr cap L) : Calls Try.prog 16 #[.pointer (some ⟨g, 0, none⟩)] w fun e w' => e = .returned (.int .i64 cnt) ∧ w = w' := by
  obtain ⟨c0, c1, c2, _⟩ := h.cells
  go_enter Try.func16, Try.ntmps16
  go_wp2_with (first | (go_at_call 37; refine (none_no g gr _ _ _ c2).mono ?_; rintro e w' ⟨rfl, rfl⟩) | fail)
  go_ret
  exact ⟨rfl, rfl⟩
theorem count_any (h : LB w G g least cnt gr cap L) : Calls Try.prog 17 #[.pointer (some ⟨g, 0, none⟩)] w fun e w' => e = .returned (.int .i64 (L.length : Int)) ∧ w = w' := by
  obtain ⟨c0, c1, c2, _⟩ := h.cells
  go_enter Try.func17, Try.ntmps17
  go_wp2_with (first | (go_at_call 37; refine (none_no g gr _ _ _ c2).mono ?_; rintro e w' ⟨rfl, rfl⟩) | fail)
  go_ret
  exact ⟨rfl, rfl⟩
/-- What it wants. -/
def wantsI (least : Nat) (cnt : Int) (m : Nat) : Int := if 2 * (m : Int) < cnt ∧ m < 1048576 then 1 else if least < m ∧ 2 * cnt < (m : Int) then -1 else 0
set_option maxRecDepth 100000 in
set_option maxHeartbeats 4000000 in
theorem wants_any (h : LB w G g least cnt gr cap L) (hm : L.length ≤ 1048576) (hc : 0 ≤ cnt) (hc2 : cnt ≤ 1099511627776) : Calls Try.prog 18 #[.pointer (some ⟨g, 0, none⟩)] w fun e w' => e = .returned (.int .i64 (wantsI least cnt L.length)) ∧ ∃ d, w' = w.drewN d := by
  obtain ⟨c0, c1, c2, _⟩ := h.cells
  obtain ⟨m, hm'⟩ : ∃ m, L.length = m := ⟨_, rfl⟩
  rw [hm'] at c2 hm ⊢
  have HN := Lib.hid (none_no g gr m cap w c2)
  clear h hm'
  have w2 : IntKind.i64.wrap (2 * (m : Int)) = 2 * (m : Int) := IntWalk.i64_in _ (by omega)
  have w3 : IntKind.i64.wrap (2 * cnt) = 2 * cnt := IntWalk.i64_in _ (by omega)
  by_cases t1 : 2 * (m : Int) < cnt
  · by_cases t2 : (m : Int) < 1048576
    · have HE := Lib.hid (show (1 : Int) = wantsI least cnt m from by unfold wantsI; rw [if_pos ⟨t1, by omega⟩])
      have d1 : decide (2 * (m : Int) < cnt) = true := decide_eq_true t1
      have d2 : decide ((m : Int) < 1048576) = true := decide_eq_true t2
      clear t1 t2 hm hc hc2
      go_enter Try.func18, Try.ntmps18
      go_wp2_with (first | (go_at_call 37; refine HN.out.mono ?_; rintro e w' ⟨rfl, rfl⟩) | fail)
      go_quiet (fail)
      go_wp2_with fail
      go_ret
      exact ⟨by rw [← HE.out]; rfl, (by first | exact ⟨_, rfl⟩ | exact drew2 _ _ _)⟩
    · by_cases t3 : (least : Int) < (m : Int)
      · have t4 : ¬ 2 * cnt < (m : Int) := by omega
        have HE := Lib.hid (show (0 : Int) = wantsI least cnt m from by unfold wantsI; rw [if_neg (by omega), if_neg (by omega)])
        have d1 : decide (2 * (m : Int) < cnt) = true := decide_eq_true t1
        have d2 : decide ((m : Int) < 1048576) = false := decide_eq_false t2
        have d3 : decide (least < m) = true := decide_eq_true (by omega)
        have d4 : decide (2 * cnt < (m : Int)) = false := decide_eq_false t4
        clear t1 t2 t3 t4 hm hc hc2
        go_enter Try.func18, Try.ntmps18
        go_wp2_with (first | (go_at_call 37; refine HN.out.mono ?_; rintro e w' ⟨rfl, rfl⟩) | fail)
        go_quiet (fail)
        go_wp2_with fail
        go_quiet (fail)
        go_wp2_with fail
        go_ret
        exact ⟨by rw [← HE.out]; rfl, (by first | exact ⟨_, rfl⟩ | exact drew2 _ _ _)⟩
      · have HE := Lib.hid (show (0 : Int) = wantsI least cnt m from by unfold wantsI; rw [if_neg (by omega), if_neg (by omega)])
        have d1 : decide (2 * (m : Int) < cnt) = true := decide_eq_true t1
        have d2 : decide ((m : Int) < 1048576) = false := decide_eq_false t2
        have d3 : decide (least < m) = false := decide_eq_false (by omega)
        clear t1 t2 t3 hm hc hc2
        go_enter Try.func18, Try.ntmps18
        go_wp2_with (first | (go_at_call 37; refine HN.out.mono ?_; rintro e w' ⟨rfl, rfl⟩) | fail)
        go_quiet (fail)
        go_wp2_with fail
        go_quiet (fail)
        go_wp2_with fail
        go_ret
        exact ⟨by rw [← HE.out]; rfl, (by first | exact ⟨_, rfl⟩ | exact drew2 _ _ _)⟩
  · by_cases t3 : (least : Int) < (m : Int)
    · by_cases t4 : 2 * cnt < (m : Int)
      · have HE := Lib.hid (show (-1 : Int) = wantsI least cnt m from by unfold wantsI; rw [if_neg (by omega), if_pos (by omega)])
        have d1 : decide (2 * (m : Int) < cnt) = false := decide_eq_false t1
        have d3 : decide (least < m) = true := decide_eq_true (by omega)
        have d4 : decide (2 * cnt < (m : Int)) = true := decide_eq_true t4
        clear t1 t3 t4 hm hc hc2
        go_enter Try.func18, Try.ntmps18
        go_wp2_with (first | (go_at_call 37; refine HN.out.mono ?_; rintro e w' ⟨rfl, rfl⟩) | fail)
        go_quiet (fail)
        go_wp2_with fail
        go_quiet (fail)
        go_wp2_with fail
        go_ret
        exact ⟨by rw [← HE.out]; rfl, (by first | exact ⟨_, rfl⟩ | exact drew2 _ _ _)⟩
      · have HE := Lib.hid (show (0 : Int) = wantsI least cnt m from by unfold wantsI; rw [if_neg (by omega), if_neg (by omega)])
        have d1 : decide (2 * (m : Int) < cnt) = false := decide_eq_false t1
        have d3 : decide (least < m) = true := decide_eq_true (by omega)
        have d4 : decide (2 * cnt < (m : Int)) = false := decide_eq_false t4
        clear t1 t3 t4 hm hc hc2
        go_enter Try.func18, Try.ntmps18
        go_wp2_with (first | (go_at_call 37; refine HN.out.mono ?_; rintro e w' ⟨rfl, rfl⟩) | fail)
        go_quiet (fail)
        go_wp2_with fail
        go_quiet (fail)
        go_wp2_with fail
        go_ret
        exact ⟨by rw [← HE.out]; rfl, (by first | exact ⟨_, rfl⟩ | exact drew2 _ _ _)⟩
    · have HE := Lib.hid (show (0 : Int) = wantsI least cnt m from by unfold wantsI; rw [if_neg (by omega), if_neg (by omega)])
      have d1 : decide (2 * (m : Int) < cnt) = false := decide_eq_false t1
      have d3 : decide (least < m) = false := decide_eq_false (by omega)
      clear t1 t3 hm hc hc2
      go_enter Try.func18, Try.ntmps18
      go_wp2_with (first | (go_at_call 37; refine HN.out.mono ?_; rintro e w' ⟨rfl, rfl⟩) | fail)
      go_quiet (fail)
      go_wp2_with fail
      go_quiet (fail)
      go_wp2_with fail
      go_ret
      exact ⟨by rw [← HE.out]; rfl, (by first | exact ⟨_, rfl⟩ | exact drew2 _ _ _)⟩
end
end Go.Proofs.Ytjipncpplpfobaa.Lb
