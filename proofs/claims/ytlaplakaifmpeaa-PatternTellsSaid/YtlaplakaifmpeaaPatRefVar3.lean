/- tenureref16.Var of a text of three bytes. -/
import Derived.Test.YtlaplakaifmpeaaPatKit
import Derived.Test.YtlaplakaifmpeaaPatRefVar
namespace Go.Proofs.Ytlaplakaifmpeaa.Pt
open Go.RowKit K Go.Shelf
set_option linter.unusedVariables false
set_option linter.unusedSimpArgs false

/-- What has been read of two digits behind i rounds. -/
def D3 (qb qc i : Nat) (d : Int) : Prop := ((i = 0 → d = 0) ∧ (1 ≤ i → 48 ≤ qb ∧ qb ≤ 57) ∧ (i = 1 → d = (qb : Int) - 48) ∧ (2 ≤ i → (48 ≤ qc ∧ qc ≤ 57) ∧ d = 10 * ((qb : Int) - 48) + ((qc : Int) - 48)))
def R3 (qb qc : Nat) (x y : Value) : Prop := ∃ (i : Nat) (d : Int), i ≤ 2 ∧ y = .int .i64 ((i : Int) + 1) ∧ x = .int .i64 d ∧ D3 qb qc i d
set_option maxRecDepth 100000 in
set_option maxHeartbeats 4000000 in
theorem rv_three (a b c : UInt8) : RvC ⟨#[a, b, c]⟩ := fun n l A c0 w W1 hW1 hb1 hg hl hck => by
  have hi0 : ({ data := #[a, b, c] } : ByteArray)[0]'(by simp [ByteArray.size]) = a := rfl
  have hi1 : ({ data := #[a, b, c] } : ByteArray)[1]'(by simp [ByteArray.size]) = b := rfl
  have hi2 : ({ data := #[a, b, c] } : ByteArray)[2]'(by simp [ByteArray.size]) = c := rfl
  obtain ⟨V, hV⟩ : ∃ V, numV (numS ⟨#[a, b, c]⟩) = V := ⟨_, rfl⟩
  have hnum : numS ⟨#[a, b, c]⟩ = if a.toNat = 36 ∧ b.toNat ≠ 48 ∧ [b, c].all dig = true then some (dv [b, c]) else none := rfl
  rw [hnum] at hV
  rw [hnum]
  rw [hV]
  clear hnum
  have HCk := Lib.hid hck
  have HB1 := Lib.hid hb1; have HG := Lib.hid hg; have HW1 := Lib.hid hW1
  clear hW1 hb1 hg hl hck
  have a9 := a.toNat_lt
  obtain ⟨qa, hqa⟩ : ∃ q, a.toNat = q := ⟨_, rfl⟩
  rw [hqa] at a9
  have b9 := b.toNat_lt
  obtain ⟨qb, hqb⟩ : ∃ q, b.toNat = q := ⟨_, rfl⟩
  rw [hqb] at b9
  have c9 := c.toNat_lt
  obtain ⟨qc, hqc⟩ : ∃ q, c.toNat = q := ⟨_, rfl⟩
  rw [hqc] at c9
  have HV := Lib.hid hV
  clear hV
  by_cases h36 : qa = 36
  · subst h36
    have hb0 : ((a.toNat : Int) != 36) = false := by rw [hqa]; rfl
    by_cases h48 : qb = 48
    · have hb1 : ((b.toNat : Int) == 48) = true := by rw [hqb, h48]; rfl
      subst h48
      have HNO := Lib.hid (show V = .tuple #[.int .i64 0, .bool false] from by rw [← HV.out, if_neg (by first | (simp [dig, hqa, hqb, hqc]; done) | (simp [dig, hqa, hqb, hqc]; omega))]; rfl)
      go_enter Try.func25, Try.ntmps25
      go_wp2_with fail
      rw [HW1.out]
      refine HCk.out.mono ?_
      rintro e w2 ⟨rfl, hb2⟩
      have HB2 := Lib.hid (bnext HB1.out hb2)
      obtain ⟨p0, p1, p2, p3, _, _, _, _⟩ := (HG.out.below hb2 HG.out.lt).four
      clear hb2
      go_wp2_with fail
      go_ret2
      exact ⟨by rw [HNO.out]; rfl, HB2.out⟩
    · have hb1 : ((b.toNat : Int) == 48) = false := by rw [hqb]; simp; omega
      have hb1q : ((qb : Int) == 48) = false := by simp; omega
      go_enter Try.func25, Try.ntmps25
      go_wp2_with fail
      rw [HW1.out]
      refine HCk.out.mono ?_
      rintro e w2 ⟨rfl, hb2⟩
      have HB2 := Lib.hid (bnext HB1.out hb2)
      obtain ⟨p0, p1, p2, p3, _, _, _, _⟩ := (HG.out.below hb2 HG.out.lt).four
      clear hb2
      go_wp2_with fail
      go_loopw [4, 5] (fun x y wr => R3 qb qc x y ∧ w2 = wr) (fun _ y _ => 3 - (intOf y).toNat)
      case atStart => exact ⟨⟨0, 0, by omega, rfl, rfl, ⟨fun _ => rfl, fun h => by omega, fun h => by omega, fun h => by omega⟩⟩, rfl⟩
      case round =>
        obtain ⟨⟨i, d, hi, rfl, rfl, ⟨g0, g1, g2, g3⟩⟩, rfl⟩ := hrel
        have h3 : i = 0 ∨ i = 1 ∨ i = 2 := by omega
        rcases h3 with rfl | rfl | rfl
        · obtain rfl := g0 rfl
          clear g0 g1 g2 g3 hi
          simp only [Int.natCast_zero, Int.zero_add]
          by_cases hlo : qb < 48
          · have HNO := Lib.hid (show V = .tuple #[.int .i64 0, .bool false] from by rw [← HV.out, if_neg (by first | (simp [dig, hqa, hqb, hqc]; done) | (simp [dig, hqa, hqb, hqc]; omega))]; rfl)
            go_wp2_with fail
            go_ret2
            exact ⟨by rw [HNO.out]; rfl, HB2.out⟩
          by_cases hhi : 57 < qb
          · have HNO := Lib.hid (show V = .tuple #[.int .i64 0, .bool false] from by rw [← HV.out, if_neg (by first | (simp [dig, hqa, hqb, hqc]; done) | (simp [dig, hqa, hqb, hqc]; omega))]; rfl)
            go_wp2_with fail
            go_ret2
            exact ⟨by rw [HNO.out]; rfl, HB2.out⟩
          have hw1 : IntKind.u8.wrap ((qb : Int) - 48) = (qb : Int) - 48 := by simp [IntKind.wrap, IntKind.bits, IntKind.signed]; omega
          go_wp2_with fail
          go_roundw
          case rel => exact ⟨⟨1, (qb : Int) - 48, by omega, rfl, rfl, ⟨fun h => by omega, fun _ => by omega, fun _ => rfl, fun h => by omega⟩⟩, by first | rfl | trivial⟩
          case measure => simp [intOf]
        · obtain rfl := g2 rfl
          obtain ⟨hdb1, hdb2⟩ := g1 (by omega)
          clear g0 g1 g2 g3 hi
          simp only [Int.natCast_one, Int.reduceAdd]
          by_cases hlo : qc < 48
          · have HNO := Lib.hid (show V = .tuple #[.int .i64 0, .bool false] from by rw [← HV.out, if_neg (by first | (simp [dig, hqa, hqb, hqc]; done) | (simp [dig, hqa, hqb, hqc]; omega))]; rfl)
            go_wp2_with fail
            go_ret2
            exact ⟨by rw [HNO.out]; rfl, HB2.out⟩
          by_cases hhi : 57 < qc
          · have HNO := Lib.hid (show V = .tuple #[.int .i64 0, .bool false] from by rw [← HV.out, if_neg (by first | (simp [dig, hqa, hqb, hqc]; done) | (simp [dig, hqa, hqb, hqc]; omega))]; rfl)
            go_wp2_with fail
            go_ret2
            exact ⟨by rw [HNO.out]; rfl, HB2.out⟩
          have hw1 : IntKind.u8.wrap ((qc : Int) - 48) = (qc : Int) - 48 := by simp [IntKind.wrap, IntKind.bits, IntKind.signed]; omega
          go_wp2_with fail
          go_roundw
          case rel => exact ⟨⟨2, 10 * ((qb : Int) - 48) + ((qc : Int) - 48), by omega, rfl, by go_num, ⟨fun h => by omega, fun _ => by omega, fun h => by omega, fun _ => ⟨by omega, rfl⟩⟩⟩, by first | rfl | trivial⟩
          case measure => simp [intOf]
        · obtain ⟨⟨hdc1, hdc2⟩, rfl⟩ := g3 (by omega)
          obtain ⟨hdb1, hdb2⟩ := g1 (by omega)
          clear g0 g1 g2 g3 hi
          have HYES := Lib.hid (show V = .tuple #[.int .i64 (10 * ((qb : Int) - 48) + ((qc : Int) - 48)), .bool true] from by rw [← HV.out, if_pos (by first | (simp [dig, hqa, hqb, hqc]; done) | (simp [dig, hqa, hqb, hqc]; omega))]; simp [numV, dv, hqa, hqb, hqc]; omega)
          go_wp2_with fail
          go_ret2
          exact ⟨by rw [HYES.out]; rfl, HB2.out⟩
  · have hb0 : ((a.toNat : Int) != 36) = true := by rw [hqa]; simp; omega
    have HNO := Lib.hid (show V = .tuple #[.int .i64 0, .bool false] from by rw [← HV.out, if_neg (by first | (simp [dig, hqa, hqb, hqc]; done) | (simp [dig, hqa, hqb, hqc]; omega))]; rfl)
    go_enter Try.func25, Try.ntmps25
    go_wp2_with fail
    rw [HW1.out]
    refine HCk.out.mono ?_
    rintro e w2 ⟨rfl, hb2⟩
    have HB2 := Lib.hid (bnext HB1.out hb2)
    obtain ⟨p0, p1, p2, p3, _, _, _, _⟩ := (HG.out.below hb2 HG.out.lt).four
    clear hb2
    go_wp2_with fail
    go_ret2
    exact ⟨by rw [HNO.out]; rfl, HB2.out⟩
end Go.Proofs.Ytlaplakaifmpeaa.Pt
