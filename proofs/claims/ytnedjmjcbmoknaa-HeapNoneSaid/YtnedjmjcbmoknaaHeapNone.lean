/- The law HeapNone returns true for every input: a heap that is nil, or that nobody made, is answered with ErrNil, and there is none on no table. -/
import Derived.Test.YtnedjmjcbmoknaaHpNo2
import Derived.Test.YtnedjmjcbmoknaaHpEight
import Derived.Test.YtnedjmjcbmoknaaOpen
namespace Go.Proofs.Ytnedjmjcbmoknaa.HeapNone
open Go.RowKit K At Fl Hp
open Go.ChangeShapes Go.WideShapes Go.ChangeAt
set_option linter.unusedVariables false
set_option linter.unusedSimpArgs false

def boxH : Array Value := #[.pointer none, .int .i64 0, .slice none 0 0, .map none]
def boxT : Array Value := #[.map none, .slice none 0 0, .int .i64 0]
def two2 (g : Nat) : Array Value := #[.pointer none, .pointer (some ⟨g, 0, none⟩)]
/-- The four blocks of the walk. -/
def Cl (w wr : World) : Prop :=
  Blk wr w.heap.size 62 boxH ∧ Blk wr (w.heap.size + 1) 22 (two2 w.heap.size) ∧ Blk wr (w.heap.size + 1 + 1) 67 boxT ∧ Blk wr (w.heap.size + 1 + 1 + 1) 53 (two2 (w.heap.size + 1 + 1)) ∧ Below w.heap.size w wr
theorem Cl.later {w w1 w2 : World} (h : Cl w w1) (hb : Below w1.heap.size w1 w2) : Cl w w2 :=
  ⟨h.1.below hb h.1.lt, h.2.1.below hb h.2.1.lt, h.2.2.1.below hb h.2.2.1.lt, h.2.2.2.1.below hb h.2.2.2.1.lt, fbelow h.2.2.2.2 hb⟩
theorem Cl.heap {w wr : World} (h : Cl w wr) {i : Nat} (hi : i < 2) : ∃ p, NoHeap wr p ∧ ∀ w', Cl w w' → NoHeap w' p ∧ w'.cell? ⟨w.heap.size + 1, i, none⟩ = some (.pointer p) := by
  rcases (by omega : i = 0 ∨ i = 1) with rfl | rfl
  · exact ⟨none, .inl rfl, fun w' h => ⟨.inl rfl, by rw [h.2.1.cell]; rfl⟩⟩
  · exact ⟨some ⟨w.heap.size, 0, none⟩, .inr ⟨_, rfl, by rw [h.1.cell]; rfl⟩, fun w' h => ⟨.inr ⟨_, rfl, by rw [h.1.cell]; rfl⟩, by rw [h.2.1.cell]; rfl⟩⟩
theorem Cl.tab {w wr : World} (h : Cl w wr) {i : Nat} (hi : i < 2) : ∃ p, NoTab wr p ∧ ∀ w', Cl w w' → NoTab w' p ∧ w'.cell? ⟨w.heap.size + 1 + 1 + 1, i, none⟩ = some (.pointer p) := by
  rcases (by omega : i = 0 ∨ i = 1) with rfl | rfl
  · exact ⟨none, .inl rfl, fun w' h => ⟨.inl rfl, by rw [h.2.2.2.1.cell]; rfl⟩⟩
  · exact ⟨some ⟨w.heap.size + 1 + 1, 0, none⟩, .inr ⟨_, rfl, by rw [h.2.2.1.cell]; rfl⟩, fun w' h => ⟨.inr ⟨_, rfl, by rw [h.2.2.1.cell]; rfl⟩, by rw [h.2.2.2.1.cell]; rfl⟩⟩
set_option maxRecDepth 100000 in
set_option maxHeartbeats 1600000 in
theorem walk (u n : Int) (w : World) : Calls Try.prog 5 #[.int .u64 u, .int .i64 n] w fun e w' => e = .returned (.bool true) ∧ Below w.heap.size w w' := by
  have HI0 := Lib.hid (show Cl w ((((w.alloc (.cells boxH 62)).alloc (.cells (two2 w.heap.size) 22)).alloc (.cells boxT 67)).alloc (.cells (two2 (w.heap.size + 1 + 1)) 53)) from by
    have g1 := Blk.new (w.alloc (.cells boxH 62)) 22 (two2 w.heap.size)
    have g2 := Blk.new ((w.alloc (.cells boxH 62)).alloc (.cells (two2 w.heap.size) 22)) 67 boxT
    have g3 := Blk.new (((w.alloc (.cells boxH 62)).alloc (.cells (two2 w.heap.size) 22)).alloc (.cells boxT 67)) 53 (two2 (w.heap.size + 1 + 1))
    simp only [World.size_alloc] at g1 g2 g3
    exact ⟨(((Blk.new _ _ _).alloc _).alloc _).alloc _, (g1.alloc _).alloc _, g2.alloc _, g3, ballocs (ballocs (ballocs (ballocs (Below.refl _ _) _) _) _) _⟩)
  unfold boxH boxT two2 at HI0
  go_enter Try.func5, Try.ntmps5
  go_wp2_with fail
  go_loopw [7] (fun x wr => ∃ i : Nat, i ≤ 2 ∧ x = .int .i64 (i : Int) ∧ Cl w wr) (fun x _ => 2 - (intOf x).toNat)
  case atStart => exact ⟨0, by omega, rfl, HI0.out⟩
  case round =>
    obtain ⟨i, hi, rfl, hc⟩ := hrel
    clear HI0
    have HC := Lib.hid hc
    by_cases hi2 : i < 2
    · have b1 : decide ((i : Int) < 2) = true := decide_eq_true (by omega)
      obtain ⟨p, _, hp⟩ := hc.heap hi2
      obtain ⟨q, _, hq⟩ := hc.tab hi2
      have hi0 : (0 : Int) ≤ (i : Int) := by omega
      have hi22 : (i : Int) < 2 := by omega
      have HP := Lib.hid hp; have HQ := Lib.hid hq
      have hcp := (hp _ hc).2
      clear hc hp hq
      go_wp2_with fail
      refine (put_no p wr (HP.out _ HC.out).1 8 0 ⟨#[]⟩ none 0 0).mono ?_
      rintro e w1 ⟨rfl, hb1⟩
      have HC1 := Lib.hid (HC.out.later hb1)
      clear hb1 hcp
      go_wp2_with fail
      refine (get_no p w1 (HP.out _ HC1.out).1 u).mono ?_
      rintro e w2 ⟨rfl, hb2⟩
      have HC2 := Lib.hid ((HC1.out.later hb2).later (ballocs (Below.refl w2.heap.size w2) (.cells #[.int .i64 0, .int .i64 0, .string ⟨#[]⟩, .slice none 0 0] 28)))
      clear hb2
      go_wp2_with fail
      have HC3 := Lib.hid (HC2.out.later (ballocs (Below.refl _ _) (.cells #[.int .u64 u] 31)))
      refine (tuple_no p _ (HP.out _ HC3.out).1 _).mono ?_
      rintro e w3 ⟨rfl, h3⟩
      rw [← h3] at HC3
      clear h3
      go_wp2_with fail
      refine (cons_no p _ (HP.out _ HC3.out).1 _ _).mono ?_
      rintro e w4 ⟨rfl, h4⟩
      obtain rfl : w3 = w4 := h4.symm
      go_wp2_with fail
      refine (fun_no p _ (HP.out _ HC3.out).1 _ _).mono ?_
      rintro e w4 ⟨rfl, h4⟩
      obtain rfl : w3 = w4 := h4.symm
      go_wp2_with fail
      refine (hparts_no p _ (HP.out _ HC3.out).1 _).mono ?_
      rintro e w4 ⟨rfl, h4⟩
      obtain rfl : w3 = w4 := h4.symm
      go_wp2_with fail
      refine (collect_no p _ (HP.out _ HC3.out).1 _).mono ?_
      rintro e w5 ⟨rfl, hb5⟩
      have HC5 := Lib.hid (HC3.out.later hb5)
      clear hb5
      go_wp2_with fail
      refine (used_no p _ (HP.out _ HC5.out).1).mono ?_
      rintro e w6 ⟨rfl, h6⟩
      obtain rfl : w5 = w6 := h6.symm
      go_wp2_with fail
      refine (limit_no p _ (HP.out _ HC5.out).1).mono ?_
      rintro e w6 ⟨rfl, h6⟩
      obtain rfl : w5 = w6 := h6.symm
      go_wp2_with fail
      refine (words_no p _ (HP.out _ HC5.out).1).mono ?_
      rintro e w6 ⟨rfl, h6⟩
      obtain rfl : w5 = w6 := h6.symm
      have hcq := (HQ.out _ HC5.out).2
      go_wp2_with fail
      refine (new_no q n _ (HQ.out _ HC5.out).1).mono ?_
      rintro e w6 ⟨rfl, h6⟩
      obtain rfl : w5 = w6 := h6.symm
      clear hcq
      go_wp2_with fail
      exact ⟨⟨i + 1, by omega, by go_num, HC5.out⟩, by simp [intOf]; omega⟩
    · obtain rfl : i = 2 := by omega
      clear hc
      go_wp2_with fail
      refine (awake_any _).mono ?_
      rintro e w3 ⟨rfl, hb3⟩
      have HB3 := Lib.hid (HC.out.later hb3).2.2.2.2
      clear hb3
      go_wp2_with fail
      go_ret
      exact ⟨ret1_b rfl, HB3.out⟩
set_option maxRecDepth 100000 in
theorem contract {H : Type} {enc : TypeId × Value → H} (W : World) {base : Nat} {r : Reach} {b : Nat} {sp : Nat → Bool} {hd : Bool} {v0 v1 : Value} {d0 d1 : DataW H} {p0 p1 : List MemPlace}
    (o0 : Value.okWide Try.prog W r b 31 v0) (h0 : DataW.Trod enc Try.prog W base sp hd 31 v0 d0 p0) (o1 : Value.okWide Try.prog W r b 3 v1) (h1 : DataW.Trod enc Try.prog W base sp hd 3 v1 d1 p1) {Q R : Prop} (_ : Q) (_ : R) :
    Calls Try.prog 5 #[v0, v1] W fun e w' => e = .returned (.bool true) ∧ Below W.heap.size W w' := by
  obtain ⟨a0, rfl, _, _, _⟩ := open_int Try.underlying31 o0 h0
  obtain ⟨a1, rfl, _, _, _⟩ := open_int Try.underlying3 o1 h1
  exact walk a0 a1 W

theorem own : ownKnob Try.prog.godebug = none := by kernel_rfl
theorem laidOut : laidOutB Try.prog = true := by kernel_rfl
theorem readable : ∀ t ∈ Try.f5.params.toList, Try.prog.readableRec t = true ∧ t < Try.prog.types.size := by
  rw [show Try.f5.params = #[31, 3] from Try.params5]
  intro t h
  simp only [List.mem_cons, List.not_mem_nil, or_false] at h
  rcases h with rfl | rfl
  · exact ⟨by kernel_rfl, of_decide_eq_true (by kernel_rfl)⟩
  · exact ⟨by kernel_rfl, of_decide_eq_true (by kernel_rfl)⟩
set_option maxRecDepth 100000 in
theorem lifted (os : Os) (started : os.Started) (H : Type) (enc : TypeId × Value → H) :
    ReturnsInHanded {} Try.checked os 5 .any (Rows.heapNoneSpec.pre6 enc Try.prog Try.f5 Rows.heapNoneRow.domain false) (Rows.heapNoneSpec.post enc Try.prog Try.f5 false true false false) := by
  refine K.law_lift (C := Try.checked) (b := 4) own started (by kernel_rfl) Try.func5
    (ChangeSpec.witness6 (enc := enc) (C := Try.checked) false ⟨#[], #[.int .u64 0, .int .i64 0], []⟩ 8 (by kernel_rfl) (by kernel_rfl) (by kernel_rfl) (by kernel_rfl)) laidOut readable rfl rfl Try.underlying4 ?_ ?_
  · intro ds hds
    rw [show Try.f5.params = #[31, 3] from Try.params5] at hds
    match ds, hds with
    | [d0, d1], _ => rfl
  · intro W base args ds p hval hA hlt hsz
    rw [show Try.checked.prog = Try.prog from rfl] at hval hA hsz
    rw [show Try.f5.params = #[31, 3] from Try.params5] at hA hval hsz
    obtain ⟨v0, vs0, d0, ds0, p0, q0, hargs, rfl, rfl, h0, r0⟩ := trodAll_cons hA
    obtain ⟨v1, vs1, d1, ds1, p1, q1, rfl, rfl, rfl, h1, r1⟩ := trodAll_cons r0
    obtain ⟨rfl, rfl, rfl⟩ := trodAll_nil r1
    obtain rfl : args = #[v0, v1] := by cases args; simp_all
    exact contract W (hval 0 31 v0 rfl rfl) h0 (hval 1 3 v1 rfl rfl) h1 (fun x hx => hlt x hx) hsz

theorem over : Rows.heapNoneRow.holds Try.pinned (OpenSpec.ofChange Rows.heapNoneSpec) :=
  OpenClaim.holds_of_wide 5 Try.f5 rfl rfl rfl rfl rfl rfl rfl ⟨rfl, rfl, rfl, rfl, rfl⟩ rfl rfl rfl rfl rfl (by kernel_rfl) Try.func5 (by kernel_rfl)
    (of_decide_eq_true (by kernel_rfl)) (by unfold Func.isWrapper; rw [if_neg (of_decide_eq_false (by kernel_rfl))]; exact ⟨rfl, rfl⟩)
    (fun os started H enc _ => lifted os started H enc)

/-- THE STATEMENT -/
theorem proved : Rows.HeapNoneSaid := over
#print axioms proved
end Go.Proofs.Ytnedjmjcbmoknaa.HeapNone
