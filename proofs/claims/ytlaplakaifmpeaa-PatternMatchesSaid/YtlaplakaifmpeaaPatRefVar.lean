/- tenureref16.Var, Any, by contracts. tenureref16.Var of a text of three bytes. tenureref16.Var, by its contract. -/
import Derived.Test.YtlaplakaifmpeaaPatKit
import Derived.Test.YtlaplakaifmpeaaRefTm
namespace Go.Proofs.Ytlaplakaifmpeaa.Pt
open Go.RowKit K Go.Shelf
set_option linter.unusedVariables false
set_option linter.unusedSimpArgs false
set_option maxRecDepth 100000 in
set_option maxHeartbeats 4000000 in
theorem rany_any (t : Tm) (v : Value) (w : World) (h : TA w t v) (hn : nodes t ≤ 1048576) : Calls Try.prog 27 #[v] w fun e w' => e = .returned (.bool (anyT t)) ∧ Below w.heap.size w w' := by
  have ht := h
  obtain ⟨k, n, s, l, A, c, rfl, rfl, ok, hl⟩ := h.open_
  obtain ⟨W1, hW1⟩ : ∃ W1, w.alloc (.cells #[.int .i64 k, .int .i64 n, .string s, .slice A l.length c] 24) = W1 := ⟨_, rfl⟩
  have hb1 : Below w.heap.size w W1 := by rw [← hW1]; exact ballocs (Below.refl _ _) _
  have hg : Blk W1 w.heap.size 24 #[.int .i64 k, .int .i64 n, .string s, .slice A l.length c] := by rw [← hW1]; exact Blk.new _ _ _
  have HCk := Lib.hid (rcheck_any _ _ W1 (ht.later hb1) hn)
  have HB1 := Lib.hid hb1; have HG := Lib.hid hg; have HW1 := Lib.hid hW1
  clear h ht hl hb1 hg hW1 hn
  obtain ⟨z, hz⟩ : ∃ z, chk (.mk k n s l) = z := ⟨_, rfl⟩
  have hm : mayT (.mk k n s l) = decide (z = 0) := by unfold mayT; rw [hz]
  have HAE := Lib.hid (show anyT (.mk k n s l) = (decide (k = 2) && (decide (s = uscore) && decide (z = 0))) from by unfold anyT; rw [hm]; rfl)
  rw [hz] at HCk
  clear hz hm ok
  by_cases h0 : z = 0
  · subst h0
    by_cases h2 : k = 2
    · subst h2
      by_cases hus : s = uscore
      · have hu1 : (s.toList == [95]) = true := by rw [hus, Lib.toList_data]; rfl
        have hu2 : s.toList = [95] := by rw [hus, Lib.toList_data]; rfl
        have HE := Lib.hid (show anyT (.mk 2 n s l) = true from by rw [HAE.out]; simp [hus])
        clear hus
        go_enter Try.func27, Try.ntmps27
        go_wp2_with fail
        rw [HW1.out]
        refine HCk.out.mono ?_
        rintro e w2 ⟨rfl, hb2⟩
        have HB2 := Lib.hid (bnext HB1.out hb2)
        obtain ⟨p0, p1, p2, p3, _, _, _, _⟩ := (HG.out.below hb2 HG.out.lt).four
        clear hb2
        go_wp2_with fail
        go_ret
        exact ⟨ret1_b HE.out.symm, HB2.out⟩
      · have hu1 := us_ne hus
        have HE := Lib.hid (show anyT (.mk 2 n s l) = false from by rw [HAE.out]; simp [hus])
        clear hus
        go_enter Try.func27, Try.ntmps27
        go_wp2_with fail
        rw [HW1.out]
        refine HCk.out.mono ?_
        rintro e w2 ⟨rfl, hb2⟩
        have HB2 := Lib.hid (bnext HB1.out hb2)
        obtain ⟨p0, p1, p2, p3, _, _, _, _⟩ := (HG.out.below hb2 HG.out.lt).four
        clear hb2
        go_wp2_with fail
        go_ret
        exact ⟨ret1_b HE.out.symm, HB2.out⟩
    · have hk : (k == 2) = false := by simpa using h2
      have HE := Lib.hid (show anyT (.mk k n s l) = false from by rw [HAE.out]; simp [h2])
      go_enter Try.func27, Try.ntmps27
      go_wp2_with fail
      rw [HW1.out]
      refine HCk.out.mono ?_
      rintro e w2 ⟨rfl, hb2⟩
      have HB2 := Lib.hid (bnext HB1.out hb2)
      obtain ⟨p0, p1, p2, p3, _, _, _, _⟩ := (HG.out.below hb2 HG.out.lt).four
      clear hb2
      go_wp2_with fail
      go_ret
      exact ⟨ret1_b HE.out.symm, HB2.out⟩
  · have hk : (z == 0) = false := by simpa using h0
    have HE := Lib.hid (show anyT (.mk k n s l) = false from by rw [HAE.out]; simp [h0])
    go_enter Try.func27, Try.ntmps27
    go_wp2_with fail
    rw [HW1.out]
    refine HCk.out.mono ?_
    rintro e w2 ⟨rfl, hb2⟩
    have HB2 := Lib.hid (bnext HB1.out hb2)
    obtain ⟨p0, p1, p2, p3, _, _, _, _⟩ := (HG.out.below hb2 HG.out.lt).four
    clear hb2
    go_wp2_with fail
    go_ret
    exact ⟨ret1_b HE.out.symm, HB2.out⟩
/-- tenureref16.Var of an atom that may be: by its text. -/
def RvC (s : ByteArray) : Prop := ∀ (n : Int) (l : List Tm) (A : Option Addr) (c : Nat) (w W1 : World), w.alloc (.cells #[.int .i64 2, .int .i64 n, .string s, .slice A l.length c] 24) = W1 → Below w.heap.size w W1 → Blk W1 w.heap.size 24 #[.int .i64 2, .int .i64 n, .string s, .slice A l.length c] → l.length ≤ maxLen →
  Calls Try.prog 44 #[.agg #[.int .i64 2, .int .i64 n, .string s, .slice A l.length c]] W1 (fun e w' => e = .returned (.int .i64 0) ∧ Below W1.heap.size W1 w') →
  Calls Try.prog 25 #[.agg #[.int .i64 2, .int .i64 n, .string s, .slice A l.length c]] w fun e w' => e = .returned (numV (numS s)) ∧ Below w.heap.size w w'
set_option maxRecDepth 100000 in
set_option maxHeartbeats 4000000 in
theorem rv_two (a b : UInt8) : RvC ⟨#[a, b]⟩ := fun n l A c0 w W1 hW1 hb1 hg hl hck => by
  have hi0 : ({ data := #[a, b] } : ByteArray)[0]'(by simp [ByteArray.size]) = a := rfl
  have hi1 : ({ data := #[a, b] } : ByteArray)[1]'(by simp [ByteArray.size]) = b := rfl
  obtain ⟨V, hV⟩ : ∃ V, numV (numS ⟨#[a, b]⟩) = V := ⟨_, rfl⟩
  have hnum : numS ⟨#[a, b]⟩ = if a.toNat = 36 ∧ [b].all dig = true then some (dv [b]) else none := rfl
  rw [hnum] at hV
  rw [hnum]
  rw [hV]
  clear hnum
  have HCk := Lib.hid hck
  have HB1 := Lib.hid hb1; have HG := Lib.hid hg; have HW1 := Lib.hid hW1
  clear hW1 hb1 hg hl hck
  have a9 := a.toNat_lt
  obtain ⟨qa, hqa⟩ : ∃ q, a.toNat = q := ⟨_, rfl⟩
  rw [hqa] at a9
  have b9 := b.toNat_lt
  obtain ⟨qb, hqb⟩ : ∃ q, b.toNat = q := ⟨_, rfl⟩
  rw [hqb] at b9
  have HV := Lib.hid hV
  clear hV
  by_cases h36 : qa = 36
  · subst h36
    have hb0 : ((a.toNat : Int) != 36) = false := by rw [hqa]; rfl
    go_enter Try.func25, Try.ntmps25
    go_wp2_with fail
    rw [HW1.out]
    refine HCk.out.mono ?_
    rintro e w2 ⟨rfl, hb2⟩
    have HB2 := Lib.hid (bnext HB1.out hb2)
    obtain ⟨p0, p1, p2, p3, _, _, _, _⟩ := (HG.out.below hb2 HG.out.lt).four
    clear hb2
    go_wp2_with fail
    go_loopw [4, 5] (fun x y wr => ((y = .int .i64 1 ∧ x = .int .i64 0) ∨ (y = .int .i64 2 ∧ x = .int .i64 ((qb : Int) - 48) ∧ (48 ≤ qb ∧ qb ≤ 57))) ∧ w2 = wr) (fun _ y _ => 2 - (intOf y).toNat)
    case atStart => exact ⟨.inl ⟨rfl, rfl⟩, rfl⟩
    case round =>
      obtain ⟨(⟨rfl, rfl⟩ | ⟨rfl, rfl, hdb⟩), rfl⟩ := hrel
      · by_cases hlo : qb < 48
        · have HNO := Lib.hid (show V = .tuple #[.int .i64 0, .bool false] from by rw [← HV.out, if_neg (by simp [dig, hqa, hqb]; omega)]; rfl)
          go_wp2_with fail
          go_ret2
          exact ⟨by rw [HNO.out]; rfl, HB2.out⟩
        by_cases hhi : 57 < qb
        · have HNO := Lib.hid (show V = .tuple #[.int .i64 0, .bool false] from by rw [← HV.out, if_neg (by simp [dig, hqa, hqb]; omega)]; rfl)
          go_wp2_with fail
          go_ret2
          exact ⟨by rw [HNO.out]; rfl, HB2.out⟩
        have hw1 : IntKind.u8.wrap ((qb : Int) - 48) = (qb : Int) - 48 := by simp [IntKind.wrap, IntKind.bits, IntKind.signed]; omega
        go_wp2_with fail
        go_roundw
        case rel => exact ⟨by first | exact .inr ⟨rfl, by go_num, by omega⟩ | (simp; omega), by first | rfl | trivial⟩
        case measure => simp [intOf]
      · have HYES := Lib.hid (show V = .tuple #[.int .i64 ((qb : Int) - 48), .bool true] from by rw [← HV.out, if_pos (by simp [dig, hqa, hqb]; omega)]; simp [numV, dv, hqa, hqb]; omega)
        go_wp2_with fail
        go_ret2
        exact ⟨by rw [HYES.out]; rfl, HB2.out⟩
  · have hb0 : ((a.toNat : Int) != 36) = true := by rw [hqa]; simp; omega
    have HNO := Lib.hid (show V = .tuple #[.int .i64 0, .bool false] from by rw [← HV.out, if_neg (by simp [dig, hqa, hqb]; omega)]; rfl)
    go_enter Try.func25, Try.ntmps25
    go_wp2_with fail
    rw [HW1.out]
    refine HCk.out.mono ?_
    rintro e w2 ⟨rfl, hb2⟩
    have HB2 := Lib.hid (bnext HB1.out hb2)
    obtain ⟨p0, p1, p2, p3, _, _, _, _⟩ := (HG.out.below hb2 HG.out.lt).four
    clear hb2
    go_wp2_with fail
    go_ret2
    exact ⟨by rw [HNO.out]; rfl, HB2.out⟩
theorem numS_out {s : ByteArray} (h : s.size < 2 ∨ 3 < s.size) : numS s = none := by
  have hs : s.data.toList.length = s.size := by rw [Array.length_toList]; rfl
  unfold numS numL
  split
  · rename_i e; rw [e] at hs; simp at hs; omega
  · rename_i e; rw [e] at hs; simp at hs; omega
  · rfl
set_option maxRecDepth 100000 in
set_option maxHeartbeats 4000000 in
theorem rv_out (s : ByteArray) (h : s.size < 2 ∨ 3 < s.size) (hm : s.size ≤ maxLen) : RvC s := fun n l A c w W1 hW1 hb1 hg hl hck => by
  have HNO := Lib.hid (show numV (numS s) = .tuple #[.int .i64 0, .bool false] from by rw [numS_out h]; rfl)
  have HCk := Lib.hid hck
  have HB1 := Lib.hid hb1; have HG := Lib.hid hg; have HW1 := Lib.hid hW1
  unfold maxLen at hm
  clear hW1 hb1 hg hl hck
  rcases h with h | h
  · have h2 : s.size ≤ 1 := by omega
    go_enter Try.func25, Try.ntmps25
    go_wp2_with fail
    rw [HW1.out]
    refine HCk.out.mono ?_
    rintro e w2 ⟨rfl, hb2⟩
    have HB2 := Lib.hid (bnext HB1.out hb2)
    obtain ⟨p0, p1, p2, p3, _, _, _, _⟩ := (HG.out.below hb2 HG.out.lt).four
    clear hb2
    go_wp2_with fail
    go_ret2
    exact ⟨by rw [HNO.out]; rfl, HB2.out⟩
  · have h2 : 4 ≤ s.size := by omega
    go_enter Try.func25, Try.ntmps25
    go_wp2_with fail
    rw [HW1.out]
    refine HCk.out.mono ?_
    rintro e w2 ⟨rfl, hb2⟩
    have HB2 := Lib.hid (bnext HB1.out hb2)
    obtain ⟨p0, p1, p2, p3, _, _, _, _⟩ := (HG.out.below hb2 HG.out.lt).four
    clear hb2
    go_wp2_with fail
    go_ret2
    exact ⟨by rw [HNO.out]; rfl, HB2.out⟩
/-- tenureref16.Var of a term that is no atom, or may not be. -/
theorem varT_no {t : Tm} (h : t.k ≠ 2 ∨ chk t ≠ 0) : varT t = none := by
  unfold varT
  rw [if_neg (fun e => h.elim (fun h => h e.1) (fun h => h e.2))]
/-- What has been read of two digits behind i rounds. -/
def D3 (qb qc i : Nat) (d : Int) : Prop := ((i = 0 → d = 0) ∧ (1 ≤ i → 48 ≤ qb ∧ qb ≤ 57) ∧ (i = 1 → d = (qb : Int) - 48) ∧ (2 ≤ i → (48 ≤ qc ∧ qc ≤ 57) ∧ d = 10 * ((qb : Int) - 48) + ((qc : Int) - 48)))
def R3 (qb qc : Nat) (x y : Value) : Prop := ∃ (i : Nat) (d : Int), i ≤ 2 ∧ y = .int .i64 ((i : Int) + 1) ∧ x = .int .i64 d ∧ D3 qb qc i d
set_option maxRecDepth 100000 in
set_option maxHeartbeats 4000000 in
theorem rv_three (a b c : UInt8) : RvC ⟨#[a, b, c]⟩ := fun n l A c0 w W1 hW1 hb1 hg hl hck => by
  have hi0 : ({ data := #[a, b, c] } : ByteArray)[0]'(by simp [ByteArray.size]) = a := rfl
  have hi1 : ({ data := #[a, b, c] } : ByteArray)[1]'(by simp [ByteArray.size]) = b := rfl
  have hi2 : ({ data := #[a, b, c] } : ByteArray)[2]'(by simp [ByteArray.size]) = c := rfl
  obtain ⟨V, hV⟩ : ∃ V, numV (numS ⟨#[a, b, c]⟩) = V := ⟨_, rfl⟩
  have hnum : numS ⟨#[a, b, c]⟩ = if a.toNat = 36 ∧ b.toNat ≠ 48 ∧ [b, c].all dig = true then some (dv [b, c]) else none := rfl
  rw [hnum] at hV
  rw [hnum]
  rw [hV]
  clear hnum
  have HCk := Lib.hid hck
  have HB1 := Lib.hid hb1; have HG := Lib.hid hg; have HW1 := Lib.hid hW1
  clear hW1 hb1 hg hl hck
  have a9 := a.toNat_lt
  obtain ⟨qa, hqa⟩ : ∃ q, a.toNat = q := ⟨_, rfl⟩
  rw [hqa] at a9
  have b9 := b.toNat_lt
  obtain ⟨qb, hqb⟩ : ∃ q, b.toNat = q := ⟨_, rfl⟩
  rw [hqb] at b9
  have c9 := c.toNat_lt
  obtain ⟨qc, hqc⟩ : ∃ q, c.toNat = q := ⟨_, rfl⟩
  rw [hqc] at c9
  have HV := Lib.hid hV
  clear hV
  by_cases h36 : qa = 36
  · subst h36
    have hb0 : ((a.toNat : Int) != 36) = false := by rw [hqa]; rfl
    by_cases h48 : qb = 48
    · have hb1 : ((b.toNat : Int) == 48) = true := by rw [hqb, h48]; rfl
      subst h48
      have HNO := Lib.hid (show V = .tuple #[.int .i64 0, .bool false] from by rw [← HV.out, if_neg (by first | (simp [dig, hqa, hqb, hqc]; done) | (simp [dig, hqa, hqb, hqc]; omega))]; rfl)
      go_enter Try.func25, Try.ntmps25
      go_wp2_with fail
      rw [HW1.out]
      refine HCk.out.mono ?_
      rintro e w2 ⟨rfl, hb2⟩
      have HB2 := Lib.hid (bnext HB1.out hb2)
      obtain ⟨p0, p1, p2, p3, _, _, _, _⟩ := (HG.out.below hb2 HG.out.lt).four
      clear hb2
      go_wp2_with fail
      go_ret2
      exact ⟨by rw [HNO.out]; rfl, HB2.out⟩
    · have hb1 : ((b.toNat : Int) == 48) = false := by rw [hqb]; simp; omega
      have hb1q : ((qb : Int) == 48) = false := by simp; omega
      go_enter Try.func25, Try.ntmps25
      go_wp2_with fail
      rw [HW1.out]
      refine HCk.out.mono ?_
      rintro e w2 ⟨rfl, hb2⟩
      have HB2 := Lib.hid (bnext HB1.out hb2)
      obtain ⟨p0, p1, p2, p3, _, _, _, _⟩ := (HG.out.below hb2 HG.out.lt).four
      clear hb2
      go_wp2_with fail
      go_loopw [4, 5] (fun x y wr => R3 qb qc x y ∧ w2 = wr) (fun _ y _ => 3 - (intOf y).toNat)
      case atStart => exact ⟨⟨0, 0, by omega, rfl, rfl, ⟨fun _ => rfl, fun h => by omega, fun h => by omega, fun h => by omega⟩⟩, rfl⟩
      case round =>
        obtain ⟨⟨i, d, hi, rfl, rfl, ⟨g0, g1, g2, g3⟩⟩, rfl⟩ := hrel
        have h3 : i = 0 ∨ i = 1 ∨ i = 2 := by omega
        rcases h3 with rfl | rfl | rfl
        · obtain rfl := g0 rfl
          clear g0 g1 g2 g3 hi
          simp only [Int.natCast_zero, Int.zero_add]
          by_cases hlo : qb < 48
          · have HNO := Lib.hid (show V = .tuple #[.int .i64 0, .bool false] from by rw [← HV.out, if_neg (by first | (simp [dig, hqa, hqb, hqc]; done) | (simp [dig, hqa, hqb, hqc]; omega))]; rfl)
            go_wp2_with fail
            go_ret2
            exact ⟨by rw [HNO.out]; rfl, HB2.out⟩
          by_cases hhi : 57 < qb
          · have HNO := Lib.hid (show V = .tuple #[.int .i64 0, .bool false] from by rw [← HV.out, if_neg (by first | (simp [dig, hqa, hqb, hqc]; done) | (simp [dig, hqa, hqb, hqc]; omega))]; rfl)
            go_wp2_with fail
            go_ret2
            exact ⟨by rw [HNO.out]; rfl, HB2.out⟩
          have hw1 : IntKind.u8.wrap ((qb : Int) - 48) = (qb : Int) - 48 := by simp [IntKind.wrap, IntKind.bits, IntKind.signed]; omega
          go_wp2_with fail
          go_roundw
          case rel => exact ⟨⟨1, (qb : Int) - 48, by omega, rfl, rfl, ⟨fun h => by omega, fun _ => by omega, fun _ => rfl, fun h => by omega⟩⟩, by first | rfl | trivial⟩
          case measure => simp [intOf]
        · obtain rfl := g2 rfl
          obtain ⟨hdb1, hdb2⟩ := g1 (by omega)
          clear g0 g1 g2 g3 hi
          simp only [Int.natCast_one, Int.reduceAdd]
          by_cases hlo : qc < 48
          · have HNO := Lib.hid (show V = .tuple #[.int .i64 0, .bool false] from by rw [← HV.out, if_neg (by first | (simp [dig, hqa, hqb, hqc]; done) | (simp [dig, hqa, hqb, hqc]; omega))]; rfl)
            go_wp2_with fail
            go_ret2
            exact ⟨by rw [HNO.out]; rfl, HB2.out⟩
          by_cases hhi : 57 < qc
          · have HNO := Lib.hid (show V = .tuple #[.int .i64 0, .bool false] from by rw [← HV.out, if_neg (by first | (simp [dig, hqa, hqb, hqc]; done) | (simp [dig, hqa, hqb, hqc]; omega))]; rfl)
            go_wp2_with fail
            go_ret2
            exact ⟨by rw [HNO.out]; rfl, HB2.out⟩
          have hw1 : IntKind.u8.wrap ((qc : Int) - 48) = (qc : Int) - 48 := by simp [IntKind.wrap, IntKind.bits, IntKind.signed]; omega
          go_wp2_with fail
          go_roundw
          case rel => exact ⟨⟨2, 10 * ((qb : Int) - 48) + ((qc : Int) - 48), by omega, rfl, by go_num, ⟨fun h => by omega, fun _ => by omega, fun h => by omega, fun _ => ⟨by omega, rfl⟩⟩⟩, by first | rfl | trivial⟩
          case measure => simp [intOf]
        · obtain ⟨⟨hdc1, hdc2⟩, rfl⟩ := g3 (by omega)
          obtain ⟨hdb1, hdb2⟩ := g1 (by omega)
          clear g0 g1 g2 g3 hi
          have HYES := Lib.hid (show V = .tuple #[.int .i64 (10 * ((qb : Int) - 48) + ((qc : Int) - 48)), .bool true] from by rw [← HV.out, if_pos (by first | (simp [dig, hqa, hqb, hqc]; done) | (simp [dig, hqa, hqb, hqc]; omega))]; simp [numV, dv, hqa, hqb, hqc]; omega)
          go_wp2_with fail
          go_ret2
          exact ⟨by rw [HYES.out]; rfl, HB2.out⟩
  · have hb0 : ((a.toNat : Int) != 36) = true := by rw [hqa]; simp; omega
    have HNO := Lib.hid (show V = .tuple #[.int .i64 0, .bool false] from by rw [← HV.out, if_neg (by first | (simp [dig, hqa, hqb, hqc]; done) | (simp [dig, hqa, hqb, hqc]; omega))]; rfl)
    go_enter Try.func25, Try.ntmps25
    go_wp2_with fail
    rw [HW1.out]
    refine HCk.out.mono ?_
    rintro e w2 ⟨rfl, hb2⟩
    have HB2 := Lib.hid (bnext HB1.out hb2)
    obtain ⟨p0, p1, p2, p3, _, _, _, _⟩ := (HG.out.below hb2 HG.out.lt).four
    clear hb2
    go_wp2_with fail
    go_ret2
    exact ⟨by rw [HNO.out]; rfl, HB2.out⟩
theorem rvC_any (s : ByteArray) (hm : s.size ≤ maxLen) : RvC s := by
  by_cases h2 : s.size = 2
  · obtain ⟨⟨l⟩⟩ := s
    match l, h2 with
    | [a, b], _ => exact rv_two a b
  by_cases h3 : s.size = 3
  · obtain ⟨⟨l⟩⟩ := s
    match l, h3 with
    | [a, b, c], _ => exact rv_three a b c
  exact rv_out s (by omega) hm
set_option maxRecDepth 100000 in
set_option maxHeartbeats 4000000 in
theorem rvar_any (t : Tm) (v : Value) (w : World) (h : TA w t v) (hn : nodes t ≤ 1048576) : Calls Try.prog 25 #[v] w fun e w' => e = .returned (numV (varT t)) ∧ Below w.heap.size w w' := by
  have ht := h
  obtain ⟨k, n, s, l, A, c, rfl, rfl, ok, hl⟩ := h.open_
  obtain ⟨W1, hW1⟩ : ∃ W1, w.alloc (.cells #[.int .i64 k, .int .i64 n, .string s, .slice A l.length c] 24) = W1 := ⟨_, rfl⟩
  have hb1 : Below w.heap.size w W1 := by rw [← hW1]; exact ballocs (Below.refl _ _) _
  have hg : Blk W1 w.heap.size 24 #[.int .i64 k, .int .i64 n, .string s, .slice A l.length c] := by rw [← hW1]; exact Blk.new _ _ _
  have hck := rcheck_any _ _ W1 (ht.later hb1) hn
  obtain ⟨z, hz⟩ : ∃ z, chk (.mk k n s l) = z := ⟨_, rfl⟩
  rw [hz] at hck
  by_cases h0 : z = 0
  · subst h0
    by_cases h2 : k = 2
    · subst h2
      have hv : varT (.mk 2 n s l) = numS s := by unfold varT; rw [if_pos ⟨rfl, hz⟩]; rfl
      rw [hv]
      exact rvC_any s ok.ws n l A c w W1 hW1 hb1 hg (Nat.le_trans ok.hl ok.hc) hck
    · have HNO := Lib.hid (show numV (varT (.mk k n s l)) = .tuple #[.int .i64 0, .bool false] from by rw [varT_no (.inl (by simpa only [Tm.k_mk] using h2))]; rfl)
      have HCk := Lib.hid hck
      have HB1 := Lib.hid hb1; have HG := Lib.hid hg; have HW1 := Lib.hid hW1
      have hk : (k == 2) = false := by simpa using h2
      have hk2 : (k != 2) = true := by simpa using h2
      clear h ht hl hb1 hg hW1 hn hck hz ok h2
      go_enter Try.func25, Try.ntmps25
      go_wp2_with fail
      rw [HW1.out]
      refine HCk.out.mono ?_
      rintro e w2 ⟨rfl, hb2⟩
      have HB2 := Lib.hid (bnext HB1.out hb2)
      obtain ⟨p0, p1, p2, p3, _, _, _, _⟩ := (HG.out.below hb2 HG.out.lt).four
      clear hb2
      go_wp2_with fail
      go_ret2
      exact ⟨by rw [HNO.out]; rfl, HB2.out⟩
  · have HNO := Lib.hid (show numV (varT (.mk k n s l)) = .tuple #[.int .i64 0, .bool false] from by rw [varT_no (.inr (by rw [hz]; exact h0))]; rfl)
    have HCk := Lib.hid hck
    have HB1 := Lib.hid hb1; have HG := Lib.hid hg; have HW1 := Lib.hid hW1
    have hk : (z == 0) = false := by simpa using h0
    have hk2 : (z != 0) = true := by simpa using h0
    clear h ht hl hb1 hg hW1 hn hck hz ok h0
    go_enter Try.func25, Try.ntmps25
    go_wp2_with fail
    rw [HW1.out]
    refine HCk.out.mono ?_
    rintro e w2 ⟨rfl, hb2⟩
    have HB2 := Lib.hid (bnext HB1.out hb2)
    obtain ⟨p0, p1, p2, p3, _, _, _, _⟩ := (HG.out.below hb2 HG.out.lt).four
    clear hb2
    go_wp2_with fail
    go_ret2
    exact ⟨by rw [HNO.out]; rfl, HB2.out⟩
end Go.Proofs.Ytlaplakaifmpeaa.Pt
