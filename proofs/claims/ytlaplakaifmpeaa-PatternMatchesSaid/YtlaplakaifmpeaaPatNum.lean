/- pattern.number: which variable a text names. (Printed by wip/bin/mk_patnum.py.) -/
import Derived.Test.YtlaplakaifmpeaaCopyTm
import Derived.Test.YtlaplakaifmpeaaCheck
import Derived.Test.YtlaplakaifmpeaaSame
namespace Go.Proofs.Ytlaplakaifmpeaa.Pt
open Go.RowKit K
set_option linter.unusedVariables false
set_option linter.unusedSimpArgs false

def dig (b : UInt8) : Bool := decide (48 ≤ b.toNat ∧ b.toNat ≤ 57)
def dv (l : List UInt8) : Nat := l.foldl (fun n c => n * 10 + (c.toNat - 48)) 0
/-- Which variable a text names. -/
def numL : List UInt8 → Option Nat
  | [a, b] => if a.toNat = 36 ∧ [b].all dig = true then some (dv [b]) else none
  | [a, b, c] => if a.toNat = 36 ∧ b.toNat ≠ 48 ∧ [b, c].all dig = true then some (dv [b, c]) else none
  | _ => none
def numS (s : ByteArray) : Option Nat := numL s.data.toList
theorem numL_lt {l : List UInt8} {n : Nat} (h : numL l = some n) : n < 100 := by
  unfold numL at h
  split at h
  · split at h
    · rename_i hc; injection h with h; have := hc.2; simp [dig] at this; simp [dv] at h; omega
    · cases h
  · split at h
    · rename_i hc; injection h with h; have h1 := hc.2.2; simp [dig] at h1; simp [dv] at h; omega
    · cases h
  · cases h
def numV (o : Option Nat) : Value := match o with
  | some n => .tuple #[.int .i64 (n : Int), .bool true]
  | none => .tuple #[.int .i64 0, .bool false]
theorem dv_snoc (l : List UInt8) (c : UInt8) : dv (l ++ [c]) = dv l * 10 + (c.toNat - 48) := by unfold dv; rw [List.foldl_append]; rfl
theorem dv_lt (l : List UInt8) (h : l.length ≤ 2) : dv l ≤ 4000 := by
  match l, h with
  | [], _ => simp [dv]
  | [a], _ => have := a.toNat_lt; simp [dv]; omega
  | [a, b], _ => have := a.toNat_lt; have := b.toNat_lt; simp [dv]; omega
theorem all_snoc (l : List UInt8) (c : UInt8) : (l ++ [c]).all dig = (l.all dig && dig c) := by simp [List.all_append]
theorem conv_row (s : ByteArray) (W : World) : ∃ (cap : Nat) (W' : World), (convert 9 75 (.string s)).run Try.prog W = .ok (.slice (some ⟨W.heap.size, 0, none⟩) s.size cap) W' ∧ Below W.heap.size W W' ∧
    ∀ j c, s.data.toList[j]? = some c → W'.cell? ⟨W.heap.size, j, none⟩ = some (.int .u8 (c.toNat : Int)) := by
  refine ⟨_, _, run_bytes_of_string W 9 75 5 s Try.underlying9 Try.underlying75 Try.underlying5, (btodrew (Below.refl _ _)).alloc (Nat.le_refl _) _, fun j c hj => ?_⟩
  rw [show W.heap.size = W.drew.heap.size from rfl, World.cell?_alloc_mark]
  have hlt : j < s.data.size := by
    have := (List.getElem?_eq_some_iff.1 hj).1
    simpa using this
  unfold bytesRow
  rw [Array.getElem?_append_left (by simpa using hlt), Array.getElem?_map]
  have : s.data[j]? = some c := by rw [← Array.getElem?_toList]; exact hj
  rw [this]
  rfl
def NumC (s : ByteArray) : Prop := ∀ w : World, Calls Try.prog 55 #[.string s] w fun e w' => e = .returned (numV (numS s)) ∧ Below w.heap.size w w'
set_option maxRecDepth 100000 in
set_option maxHeartbeats 4000000 in
theorem number_out (s : ByteArray) (h : s.size < 2 ∨ 3 < s.size) (hm : s.size ≤ maxLen) : NumC s := fun w => by
  have hn : numS s = none := by
    have hs : s.data.toList.length = s.size := by rw [Array.length_toList]; rfl
    unfold numS numL
    split
    · rename_i e; rw [e] at hs; simp at hs; omega
    · rename_i e; rw [e] at hs; simp at hs; omega
    · rfl
  have HN := Lib.hid hn
  unfold maxLen at hm
  rcases h with h | h
  · clear hn
    go_enter Try.func55, Try.ntmps55
    go_wp2_with fail
    go_ret2
    exact ⟨by rw [HN.out]; rfl, Below.refl _ _⟩
  · clear hn
    have h2 : ¬ s.size < 2 := by omega
    go_enter Try.func55, Try.ntmps55
    go_wp2_with fail
    go_ret2
    exact ⟨by rw [HN.out]; rfl, Below.refl _ _⟩
set_option maxRecDepth 100000 in
set_option maxHeartbeats 4000000 in
theorem number_two (a b : UInt8) : NumC ⟨#[a, b]⟩ := fun w => by
  have hi0 : ({ data := #[a, b] } : ByteArray)[0]'(by simp [ByteArray.size]) = a := rfl
  by_cases h36 : a.toNat = 36
  · have hb0 : ((a.toNat : Int) != 36) = false := by simp; omega
    have hnum : numS ⟨#[a, b]⟩ = if [b].all dig = true then some (dv [b]) else none := by
      show numL [a, b] = _
      unfold numL
      simp [h36]
    obtain ⟨cap, w1, hcv, hb1, hcell⟩ := conv_row (({ data := #[a, b] } : ByteArray).extract 1 2) w
    rw [show (({ data := #[a, b] } : ByteArray).extract 1 2).size = 1 from rfl] at hcv
    rw [show (({ data := #[a, b] } : ByteArray).extract 1 2).data.toList = [b] from rfl] at hcell
    obtain ⟨V, hV⟩ : ∃ V, numS ⟨#[a, b]⟩ = V := ⟨_, rfl⟩
    rw [hV] at hnum ⊢
    have HN := Lib.hid hnum
    have HB1 := Lib.hid hb1
    obtain ⟨L, hL⟩ : ∃ L : List UInt8, [b] = L := ⟨_, rfl⟩
    have hlen : L.length = 1 := by rw [← hL]; rfl
    rw [hL] at hcell HN
    have HC := Lib.hid hcell
    have HLN := Lib.hid hlen
    clear hnum hb1 hcell hL hlen h36 hV
    go_enter Try.func55, Try.ntmps55
    go_wp2_with fail
    go_loopw [4, 34] (fun x y wr => ∃ i : Nat, i ≤ 1 ∧ y = .int .i64 (i : Int) ∧ x = .int .i64 (dv (L.take i) : Int) ∧ (L.take i).all dig = true ∧ w1 = wr) (fun _ y _ => 1 - (intOf y).toNat)
    case atStart => exact ⟨0, Nat.zero_le _, rfl, rfl, rfl, rfl⟩
    case round =>
      obtain ⟨i, hi, rfl, rfl, hall, rfl⟩ := hrel
      have hdl := dv_lt (L.take i) (by have := HLN.out; simp; omega)
      obtain ⟨d, hd⟩ : ∃ d, dv (L.take i) = d := ⟨_, rfl⟩
      rw [hd] at hdl ⊢
      have HD := Lib.hid hd
      have HALL := Lib.hid hall
      clear hd hall hcv
      by_cases hlt : i < 1
      · obtain ⟨c0, hc0⟩ : ∃ c, L[i]? = some c := ⟨_, List.getElem?_eq_getElem (by have := HLN.out; omega)⟩
        have hcc := HC.out i c0 hc0
        have hct : L.take (i + 1) = L.take i ++ [c0] := take_snoc_of hc0
        have hc9 := c0.toNat_lt
        obtain ⟨q, hq⟩ : ∃ q, c0.toNat = q := ⟨_, rfl⟩
        rw [hq] at hcc hc9
        have hi0' : (0 : Int) ≤ (i : Int) := by omega
        have HCT := Lib.hid hct
        have HQ := Lib.hid hq
        have HC0 := Lib.hid hc0
        clear hc0 hct hq
        by_cases hlo : q < 48
        · have hno : L.all dig = false := by
            refine Bool.eq_false_iff.2 fun h => ?_
            have := (List.all_eq_true.1 h) c0 (List.mem_of_getElem? HC0.out)
            simp [dig] at this
            have := HQ.out
            omega
          have HNO := Lib.hid (show numV V = .tuple #[.int .i64 0, .bool false] from by rw [HN.out, hno]; rfl)
          clear hno
          go_wp2_with fail
          go_ret2
          exact ⟨by rw [HNO.out]; rfl, HB1.out⟩
        by_cases hhi : 57 < q
        · have hno : L.all dig = false := by
            refine Bool.eq_false_iff.2 fun h => ?_
            have := (List.all_eq_true.1 h) c0 (List.mem_of_getElem? HC0.out)
            simp [dig] at this
            have := HQ.out
            omega
          have HNO := Lib.hid (show numV V = .tuple #[.int .i64 0, .bool false] from by rw [HN.out, hno]; rfl)
          clear hno
          go_wp2_with fail
          go_ret2
          exact ⟨by rw [HNO.out]; rfl, HB1.out⟩
        · have hw1 : IntKind.u8.wrap ((q : Int) - 48) = (q : Int) - 48 := by simp [IntKind.wrap, IntKind.bits, IntKind.signed]; omega
          go_wp2_with fail
          go_roundw
          case rel => exact ⟨i + 1, by omega, by go_num, by rw [HCT.out, dv_snoc, HD.out, HQ.out]; go_num, by rw [HCT.out, all_snoc, HALL.out]; have := HQ.out; simp [dig]; omega, trivial⟩
          case measure => simp [intOf]; omega
      · obtain rfl : i = 1 := by omega
        have HYES := Lib.hid (show numV V = .tuple #[.int .i64 (d : Int), .bool true] from by
          have h1 := HALL.out
          have h2 := HD.out
          rw [List.take_of_length_le (by rw [HLN.out]; exact Nat.le_refl _)] at h1 h2
          rw [HN.out, if_pos h1, h2]; rfl)
        go_wp2_with fail
        go_ret2
        exact ⟨by rw [HYES.out]; rfl, HB1.out⟩
  · have hb0 : ((a.toNat : Int) != 36) = true := by simp; omega
    have HNO := Lib.hid (show numV (numS ⟨#[a, b]⟩) = .tuple #[.int .i64 0, .bool false] from by
      have : numS ⟨#[a, b]⟩ = none := by
        show numL [a, b] = none
        unfold numL
        simp [h36]
      rw [this]; rfl)
    clear h36
    go_enter Try.func55, Try.ntmps55
    go_wp2_with fail
    go_ret2
    exact ⟨by rw [HNO.out]; rfl, Below.refl _ _⟩
set_option maxRecDepth 100000 in
set_option maxHeartbeats 4000000 in
theorem number_three (a b c : UInt8) : NumC ⟨#[a, b, c]⟩ := fun w => by
  have hi0 : ({ data := #[a, b, c] } : ByteArray)[0]'(by simp [ByteArray.size]) = a := rfl
  have hi1 : ({ data := #[a, b, c] } : ByteArray)[1]'(by simp [ByteArray.size]) = b := rfl
  by_cases h36 : a.toNat = 36
  · have hb0 : ((a.toNat : Int) != 36) = false := by simp; omega
    by_cases h48 : b.toNat = 48
    · have hb1 : ((b.toNat : Int) == 48) = true := by simp; omega
      have HNO := Lib.hid (show numV (numS ⟨#[a, b, c]⟩) = .tuple #[.int .i64 0, .bool false] from by
        have : numS ⟨#[a, b, c]⟩ = none := by
          show numL [a, b, c] = none
          unfold numL
          simp [h48]
        rw [this]; rfl)
      clear h36 h48
      go_enter Try.func55, Try.ntmps55
      go_wp2_with fail
      go_ret2
      exact ⟨by rw [HNO.out]; rfl, Below.refl _ _⟩
    · have hb1 : ((b.toNat : Int) == 48) = false := by simp; omega
      have hnum : numS ⟨#[a, b, c]⟩ = if [b, c].all dig = true then some (dv [b, c]) else none := by
        show numL [a, b, c] = _
        unfold numL
        simp [h36, h48]
      obtain ⟨cap, w1, hcv, hbw, hcell⟩ := conv_row (({ data := #[a, b, c] } : ByteArray).extract 1 3) w
      rw [show (({ data := #[a, b, c] } : ByteArray).extract 1 3).size = 2 from rfl] at hcv
      rw [show (({ data := #[a, b, c] } : ByteArray).extract 1 3).data.toList = [b, c] from rfl] at hcell
      obtain ⟨V, hV⟩ : ∃ V, numS ⟨#[a, b, c]⟩ = V := ⟨_, rfl⟩
      rw [hV] at hnum ⊢
      have HN := Lib.hid hnum
      have HB1 := Lib.hid hbw
      obtain ⟨L, hL⟩ : ∃ L : List UInt8, [b, c] = L := ⟨_, rfl⟩
      have hlen : L.length = 2 := by rw [← hL]; rfl
      rw [hL] at hcell HN
      have HC := Lib.hid hcell
      have HLN := Lib.hid hlen
      clear hnum hbw hcell hL hlen h36 h48 hV
      go_enter Try.func55, Try.ntmps55
      go_wp2_with fail
      go_loopw [4, 34] (fun x y wr => ∃ i : Nat, i ≤ 2 ∧ y = .int .i64 (i : Int) ∧ x = .int .i64 (dv (L.take i) : Int) ∧ (L.take i).all dig = true ∧ w1 = wr) (fun _ y _ => 2 - (intOf y).toNat)
      case atStart => exact ⟨0, Nat.zero_le _, rfl, rfl, rfl, rfl⟩
      case round =>
        obtain ⟨i, hi, rfl, rfl, hall, rfl⟩ := hrel
        have hdl := dv_lt (L.take i) (by have := HLN.out; simp; omega)
        obtain ⟨d, hd⟩ : ∃ d, dv (L.take i) = d := ⟨_, rfl⟩
        rw [hd] at hdl ⊢
        have HD := Lib.hid hd
        have HALL := Lib.hid hall
        clear hd hall hcv
        by_cases hlt : i < 2
        · obtain ⟨c0, hc0⟩ : ∃ c, L[i]? = some c := ⟨_, List.getElem?_eq_getElem (by have := HLN.out; omega)⟩
          have hcc := HC.out i c0 hc0
          have hct : L.take (i + 1) = L.take i ++ [c0] := take_snoc_of hc0
          have hc9 := c0.toNat_lt
          obtain ⟨q, hq⟩ : ∃ q, c0.toNat = q := ⟨_, rfl⟩
          rw [hq] at hcc hc9
          have hi0' : (0 : Int) ≤ (i : Int) := by omega
          have HCT := Lib.hid hct
          have HQ := Lib.hid hq
          have HC0 := Lib.hid hc0
          clear hc0 hct hq
          by_cases hlo : q < 48
          · have hno : L.all dig = false := by
              refine Bool.eq_false_iff.2 fun h => ?_
              have := (List.all_eq_true.1 h) c0 (List.mem_of_getElem? HC0.out)
              simp [dig] at this
              have := HQ.out
              omega
            have HNO := Lib.hid (show numV V = .tuple #[.int .i64 0, .bool false] from by rw [HN.out, hno]; rfl)
            clear hno
            go_wp2_with fail
            go_ret2
            exact ⟨by rw [HNO.out]; rfl, HB1.out⟩
          by_cases hhi : 57 < q
          · have hno : L.all dig = false := by
              refine Bool.eq_false_iff.2 fun h => ?_
              have := (List.all_eq_true.1 h) c0 (List.mem_of_getElem? HC0.out)
              simp [dig] at this
              have := HQ.out
              omega
            have HNO := Lib.hid (show numV V = .tuple #[.int .i64 0, .bool false] from by rw [HN.out, hno]; rfl)
            clear hno
            go_wp2_with fail
            go_ret2
            exact ⟨by rw [HNO.out]; rfl, HB1.out⟩
          · have hw1 : IntKind.u8.wrap ((q : Int) - 48) = (q : Int) - 48 := by simp [IntKind.wrap, IntKind.bits, IntKind.signed]; omega
            go_wp2_with fail
            go_roundw
            case rel => exact ⟨i + 1, by omega, by go_num, by rw [HCT.out, dv_snoc, HD.out, HQ.out]; go_num, by rw [HCT.out, all_snoc, HALL.out]; have := HQ.out; simp [dig]; omega, trivial⟩
            case measure => simp [intOf]; omega
        · obtain rfl : i = 2 := by omega
          have HYES := Lib.hid (show numV V = .tuple #[.int .i64 (d : Int), .bool true] from by
            have h1 := HALL.out
            have h2 := HD.out
            rw [List.take_of_length_le (by rw [HLN.out]; exact Nat.le_refl _)] at h1 h2
            rw [HN.out, if_pos h1, h2]; rfl)
          go_wp2_with fail
          go_ret2
          exact ⟨by rw [HYES.out]; rfl, HB1.out⟩
  · have hb0 : ((a.toNat : Int) != 36) = true := by simp; omega
    have HNO := Lib.hid (show numV (numS ⟨#[a, b, c]⟩) = .tuple #[.int .i64 0, .bool false] from by
      have : numS ⟨#[a, b, c]⟩ = none := by
        show numL [a, b, c] = none
        unfold numL
        simp [h36]
      rw [this]; rfl)
    clear h36
    go_enter Try.func55, Try.ntmps55
    go_wp2_with fail
    go_ret2
    exact ⟨by rw [HNO.out]; rfl, Below.refl _ _⟩
theorem number_any (s : ByteArray) (hm : s.size ≤ maxLen) : NumC s := by
  by_cases h2 : s.size = 2
  · obtain ⟨⟨l⟩⟩ := s
    match l, h2 with
    | [a, b], _ => exact number_two a b
  by_cases h3 : s.size = 3
  · obtain ⟨⟨l⟩⟩ := s
    match l, h3 with
    | [a, b, c], _ => exact number_three a b c
  exact number_out s (by omega) hm
end Go.Proofs.Ytlaplakaifmpeaa.Pt
