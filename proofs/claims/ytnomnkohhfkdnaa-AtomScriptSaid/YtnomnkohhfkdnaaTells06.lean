/- tells, by its contract: of a table and the document's, with the same atoms, it says true. (Printed by wip/bin/gen_tells.py.) -/
import Derived.Test.YtnomnkohhfkdnaaScript06
namespace Go.Proofs.Ytnomnkohhfkdnaa.At
open Go.RowKit K
set_option linter.unusedVariables false
set_option linter.unusedSimpArgs false

theorem Tab.drewN {w : World} {F : Nat → Prop} {g : Nat} {L : List ByteArray} (h : Tab w F g L) (k : Nat) : Tab (w.drewN k) F g L := by
  obtain ⟨bm, v, D, r⟩ := h
  exact ⟨bm, v, D, r⟩
theorem quiet_left {P : Program} {f : Nat} {args : Array Value} {w : World} {n : Nat} {v : Value} (h : Calls P f args (w.drewN n) fun e w' => e = .returned v ∧ w.drewN n = w') :
    Calls P f args (w.drewN n) fun e w'' => e = .returned v ∧ ∃ m, w'' = w.drewN m := h.mono fun _ _ ⟨he, hm⟩ => ⟨he, n, hm.symm⟩
theorem quiet_more {P : Program} {f : Nat} {args : Array Value} {w : World} {n : Nat} {v : Value} (h : Calls P f args (w.drewN n) fun e w' => e = .returned v ∧ ∃ k, w' = (w.drewN n).drewN k) :
    Calls P f args (w.drewN n) fun e w'' => e = .returned v ∧ ∃ m, w'' = w.drewN m := h.mono fun _ _ ⟨he, k, hm⟩ => ⟨he, n + k, by rw [hm]; simp⟩

/-- A row of our own, made since w; what it holds is of no matter. -/
def Mine (w : World) (v : Value) (n : Nat) (w' : World) : Prop := ∃ xs, w'.ownsRow w.heap.size 9 1 v n xs ∧ Below w.heap.size w w'
theorem Mine.open_ {w w' : World} {v : Value} {n k : Nat} (h : Mine w v n w') (hk : k < n) :
    ∃ r cap, v = .slice (some ⟨r, 0, none⟩) n cap ∧ w'.frozen? ⟨r, k, none⟩ = false ∧ (∃ u, w'.cell? ⟨r, k, none⟩ = some u) ∧ ∀ u, Mine w v n (w'.setCell ⟨r, k, none⟩ u) := by
  obtain ⟨xs, hR, hb⟩ := h
  obtain ⟨r, cap, rfl, _, _, hr, _, _⟩ := ownsRow_at hR hk
  refine ⟨r, cap, rfl, hR.frozenAt k, ?_, fun u => ⟨_, (hR.stored k u).1, hb.setCell hr u⟩⟩
  have hl : k < xs.length := by have := hR.1; omega
  exact ⟨xs[k], by rw [hR.cellAt k (by omega), List.getElem?_eq_getElem hl]⟩

set_option maxRecDepth 100000 in
set_option maxHeartbeats 8000000 in
theorem tells_in (B : Nat) (w0 : World) (g h : Nat) (L : List ByteArray) (n : Nat) (t : ByteArray) (s : ByteArray) (w : World) (hS : StR B w0 g h L w) (hn : L[n]? = some t) (hs : s.size ≤ maxLen) :
    Calls Try.prog 18 #[.pointer (some ⟨g, 0, none⟩), .pointer (some ⟨h, 0, none⟩), .int .i64 (n : Int), .string s] w fun e w' => e = .returned (.bool true) ∧ StR B w0 g h L w' := by
  have HS := Lib.hid hS
  obtain ⟨h1, h2, F, G, hT, hR, hF, hG, hd⟩ := hS
  have hlt : n < L.length := (List.getElem?_eq_some_iff.1 hn).1
  have n0 : (0 : Int) ≤ (n : Int) := by omega
  have n1 : (n : Int) < (L.length : Int) := by omega
  have HN := Lib.hid (name_yes g L n t w F hT hn)
  have HF := Lib.hid (find_any g L s w F hT hs)
  have HG := Lib.hid (rfind_any h L s w G hR hs)
  have HL := Lib.hid (all_any g L w F hT)
  have hT0 := Lib.hid hT
  obtain ⟨v, fl, fg, fv, hB, hRw, hsz, hl4, hby⟩ := hR
  obtain ⟨A0, cap, rfl, hc1, hc2⟩ := ownsRow_form hRw
  have hRd := Lib.hid (Reads.of_own hRw)
  obtain ⟨r, cap', he, _, _, _, _, hc⟩ := ownsRow_at hRw hlt
  injection he with e1 e2 e3
  subst e1 e3
  clear e2
  have d1 : w.cell? ⟨r, n, none⟩ = some (.string t) := hc n _ (by rw [List.getElem?_map, hn]; rfl)
  have hh := hB.lt
  have c1 : w.cell? ⟨h, 0, none⟩ = some (.slice (some ⟨r, 0, none⟩) L.length cap) := by rw [hB.cell]; rfl
  clear hT hB hRw hsz fl fv hF hG hd h1 hc hn
  by_cases hm : s ∈ L
  · have f1 : fdN L s = (idx L s : Int) := by unfold fdN; rw [if_pos hm]
    have f2 : fdB L s = true := by unfold fdB; simp [hm]
    have f3 : rfN L s = (idx L s : Int) := by unfold rfN; rw [if_pos hm]
    clear hm
    go_enter Try.func18, Try.ntmps18
    go_wp2_with (first
        | (go_at_call 10; refine HN.out.mono ?_; rintro e w1 ⟨rfl, rfl⟩)
        | (go_at_call 11; refine HF.out.mono ?_; rintro e w1 ⟨rfl, rfl⟩)
        | (go_at_call 21; refine HG.out.mono ?_; rintro e w1 ⟨rfl, rfl⟩)
        | (go_at_call 19; refine HL.out.mono ?_; rintro e w2 ⟨v2, rfl, hR2, hb2⟩
           obtain ⟨A2, k2, rfl, q1, q2⟩ := ownsRow_form hR2
           have c2 : w2.cell? ⟨h, 0, none⟩ = some (.slice (some ⟨r, 0, none⟩) L.length cap) := (hb2.cell (p := ⟨h, 0, none⟩) hh).trans c1))
    have HLen := Lib.hid (fun k => len_any g L (w2.drewN k) F (Tab.drewN (hT0.out.keep (Keep.new hb2 (F := fun k => w.heap.size ≤ k)) (fun r hr hs => by have := hT0.out.lt r hr; omega)) k))
    have HSame := Lib.hid (fun k => sameTexts_yes A2 (some ⟨r, 0, none⟩) k2 cap w2.heap.size w.heap.size L (w2.drewN k) ((Reads.of_own hR2).drewN k) ((hRd.out.below hb2).drewN k) hl4)
    go_quiet (first | (go_at_call 16; exact quiet_left (HLen.out _)) | (go_at_call 23; exact quiet_more (HSame.out _)))
    have HM : Mine w (.slice A2 L.length k2) L.length (w2.drewN nq) := ⟨_, hR2, hb2.os, hb2.tape, hb2.output, hb2.size, hb2.block⟩
    clear HLen HSame HN HF HG HL hT0 hRd hR2 hb2 c1 c2 q1 q2 f1 f2 f3 d1
    go_wp2_with fail
    go_loopw [17] (fun i wr => ∃ k : Nat, k ≤ L.length ∧ i = .int .i64 (k : Int) ∧ Mine w (.slice A2 L.length k2) L.length wr) (fun i _ => L.length - (intOf i).toNat)
    case atStart => exact ⟨0, Nat.zero_le _, rfl, HM⟩
    case round =>
      obtain ⟨k, hk, rfl, hM⟩ := hrel
      by_cases hlt2 : k < L.length
      · obtain ⟨r2, k3, he2, fz, ⟨u, hu⟩, hset⟩ := hM.open_ hlt2
        injection he2 with e1 e2 e3
        subst e1 e3
        clear e2 hM
        go_wp2_with fail
        go_roundw
        case rel => exact ⟨k + 1, by omega, by go_num, hset _⟩
        case measure => simp [intOf]; omega
      · go_wp2_with fail
        go_ret
        obtain ⟨xs, _, hb3⟩ := hM
        exact ⟨ret1_b rfl, HS.out.grown hb3⟩
  · have f1 : fdN L s = 0 := by unfold fdN; rw [if_neg hm]
    have f2 : fdB L s = false := by unfold fdB; simp [hm]
    have f3 : rfN L s = -1 := by unfold rfN; rw [if_neg hm]
    clear hm
    go_enter Try.func18, Try.ntmps18
    go_wp2_with (first
        | (go_at_call 10; refine HN.out.mono ?_; rintro e w1 ⟨rfl, rfl⟩)
        | (go_at_call 11; refine HF.out.mono ?_; rintro e w1 ⟨rfl, rfl⟩)
        | (go_at_call 21; refine HG.out.mono ?_; rintro e w1 ⟨rfl, rfl⟩)
        | (go_at_call 19; refine HL.out.mono ?_; rintro e w2 ⟨v2, rfl, hR2, hb2⟩
           obtain ⟨A2, k2, rfl, q1, q2⟩ := ownsRow_form hR2
           have c2 : w2.cell? ⟨h, 0, none⟩ = some (.slice (some ⟨r, 0, none⟩) L.length cap) := (hb2.cell (p := ⟨h, 0, none⟩) hh).trans c1))
    have HLen := Lib.hid (fun k => len_any g L (w2.drewN k) F (Tab.drewN (hT0.out.keep (Keep.new hb2 (F := fun k => w.heap.size ≤ k)) (fun r hr hs => by have := hT0.out.lt r hr; omega)) k))
    have HSame := Lib.hid (fun k => sameTexts_yes A2 (some ⟨r, 0, none⟩) k2 cap w2.heap.size w.heap.size L (w2.drewN k) ((Reads.of_own hR2).drewN k) ((hRd.out.below hb2).drewN k) hl4)
    go_quiet (first | (go_at_call 16; exact quiet_left (HLen.out _)) | (go_at_call 23; exact quiet_more (HSame.out _)))
    have HM : Mine w (.slice A2 L.length k2) L.length (w2.drewN nq) := ⟨_, hR2, hb2.os, hb2.tape, hb2.output, hb2.size, hb2.block⟩
    clear HLen HSame HN HF HG HL hT0 hRd hR2 hb2 c1 c2 q1 q2 f1 f2 f3 d1
    go_wp2_with fail
    go_loopw [17] (fun i wr => ∃ k : Nat, k ≤ L.length ∧ i = .int .i64 (k : Int) ∧ Mine w (.slice A2 L.length k2) L.length wr) (fun i _ => L.length - (intOf i).toNat)
    case atStart => exact ⟨0, Nat.zero_le _, rfl, HM⟩
    case round =>
      obtain ⟨k, hk, rfl, hM⟩ := hrel
      by_cases hlt2 : k < L.length
      · obtain ⟨r2, k3, he2, fz, ⟨u, hu⟩, hset⟩ := hM.open_ hlt2
        injection he2 with e1 e2 e3
        subst e1 e3
        clear e2 hM
        go_wp2_with fail
        go_roundw
        case rel => exact ⟨k + 1, by omega, by go_num, hset _⟩
        case measure => simp [intOf]; omega
      · go_wp2_with fail
        go_ret
        obtain ⟨xs, _, hb3⟩ := hM
        exact ⟨ret1_b rfl, HS.out.grown hb3⟩

set_option maxRecDepth 100000 in
set_option maxHeartbeats 8000000 in
theorem tells_low (B : Nat) (w0 : World) (g h : Nat) (L : List ByteArray) (n : Int) (s : ByteArray) (w : World) (hS : StR B w0 g h L w) (hn : n < 0) (hs : s.size ≤ maxLen) :
    Calls Try.prog 18 #[.pointer (some ⟨g, 0, none⟩), .pointer (some ⟨h, 0, none⟩), .int .i64 n, .string s] w fun e w' => e = .returned (.bool true) ∧ StR B w0 g h L w' := by
  have HS := Lib.hid hS
  obtain ⟨h1, h2, F, G, hT, hR, hF, hG, hd⟩ := hS

  have HN := Lib.hid (name_no g L n w F hT (.inl hn))
  have HF := Lib.hid (find_any g L s w F hT hs)
  have HG := Lib.hid (rfind_any h L s w G hR hs)
  have HL := Lib.hid (all_any g L w F hT)
  have hT0 := Lib.hid hT
  obtain ⟨v, fl, fg, fv, hB, hRw, hsz, hl4, hby⟩ := hR
  obtain ⟨A0, cap, rfl, hc1, hc2⟩ := ownsRow_form hRw
  have hRd := Lib.hid (Reads.of_own hRw)
  have hh := hB.lt
  have c1 : w.cell? ⟨h, 0, none⟩ = some (.slice A0 L.length cap) := by rw [hB.cell]; rfl
  clear hT hB hRw hsz fl fv hF hG hd h1
  by_cases hm : s ∈ L
  · have f1 : fdN L s = (idx L s : Int) := by unfold fdN; rw [if_pos hm]
    have f2 : fdB L s = true := by unfold fdB; simp [hm]
    have f3 : rfN L s = (idx L s : Int) := by unfold rfN; rw [if_pos hm]
    clear hm
    go_enter Try.func18, Try.ntmps18
    go_wp2_with (first
        | (go_at_call 10; refine HN.out.mono ?_; rintro e w1 ⟨rfl, rfl⟩)
        | (go_at_call 11; refine HF.out.mono ?_; rintro e w1 ⟨rfl, rfl⟩)
        | (go_at_call 21; refine HG.out.mono ?_; rintro e w1 ⟨rfl, rfl⟩)
        | (go_at_call 19; refine HL.out.mono ?_; rintro e w2 ⟨v2, rfl, hR2, hb2⟩
           obtain ⟨A2, k2, rfl, q1, q2⟩ := ownsRow_form hR2
           have c2 : w2.cell? ⟨h, 0, none⟩ = some (.slice A0 L.length cap) := (hb2.cell (p := ⟨h, 0, none⟩) hh).trans c1))
    have HLen := Lib.hid (fun k => len_any g L (w2.drewN k) F (Tab.drewN (hT0.out.keep (Keep.new hb2 (F := fun k => w.heap.size ≤ k)) (fun r hr hs => by have := hT0.out.lt r hr; omega)) k))
    have HSame := Lib.hid (fun k => sameTexts_yes A2 A0 k2 cap w2.heap.size w.heap.size L (w2.drewN k) ((Reads.of_own hR2).drewN k) ((hRd.out.below hb2).drewN k) hl4)
    go_quiet (first | (go_at_call 16; exact quiet_left (HLen.out _)) | (go_at_call 23; exact quiet_more (HSame.out _)))
    have HM : Mine w (.slice A2 L.length k2) L.length (w2.drewN nq) := ⟨_, hR2, hb2.os, hb2.tape, hb2.output, hb2.size, hb2.block⟩
    clear HLen HSame HN HF HG HL hT0 hRd hR2 hb2 c1 c2 q1 q2 f1 f2 f3
    go_wp2_with fail
    go_loopw [17] (fun i wr => ∃ k : Nat, k ≤ L.length ∧ i = .int .i64 (k : Int) ∧ Mine w (.slice A2 L.length k2) L.length wr) (fun i _ => L.length - (intOf i).toNat)
    case atStart => exact ⟨0, Nat.zero_le _, rfl, HM⟩
    case round =>
      obtain ⟨k, hk, rfl, hM⟩ := hrel
      by_cases hlt2 : k < L.length
      · obtain ⟨r2, k3, he2, fz, ⟨u, hu⟩, hset⟩ := hM.open_ hlt2
        injection he2 with e1 e2 e3
        subst e1 e3
        clear e2 hM
        go_wp2_with fail
        go_roundw
        case rel => exact ⟨k + 1, by omega, by go_num, hset _⟩
        case measure => simp [intOf]; omega
      · go_wp2_with fail
        go_ret
        obtain ⟨xs, _, hb3⟩ := hM
        exact ⟨ret1_b rfl, HS.out.grown hb3⟩
  · have f1 : fdN L s = 0 := by unfold fdN; rw [if_neg hm]
    have f2 : fdB L s = false := by unfold fdB; simp [hm]
    have f3 : rfN L s = -1 := by unfold rfN; rw [if_neg hm]
    clear hm
    go_enter Try.func18, Try.ntmps18
    go_wp2_with (first
        | (go_at_call 10; refine HN.out.mono ?_; rintro e w1 ⟨rfl, rfl⟩)
        | (go_at_call 11; refine HF.out.mono ?_; rintro e w1 ⟨rfl, rfl⟩)
        | (go_at_call 21; refine HG.out.mono ?_; rintro e w1 ⟨rfl, rfl⟩)
        | (go_at_call 19; refine HL.out.mono ?_; rintro e w2 ⟨v2, rfl, hR2, hb2⟩
           obtain ⟨A2, k2, rfl, q1, q2⟩ := ownsRow_form hR2
           have c2 : w2.cell? ⟨h, 0, none⟩ = some (.slice A0 L.length cap) := (hb2.cell (p := ⟨h, 0, none⟩) hh).trans c1))
    have HLen := Lib.hid (fun k => len_any g L (w2.drewN k) F (Tab.drewN (hT0.out.keep (Keep.new hb2 (F := fun k => w.heap.size ≤ k)) (fun r hr hs => by have := hT0.out.lt r hr; omega)) k))
    have HSame := Lib.hid (fun k => sameTexts_yes A2 A0 k2 cap w2.heap.size w.heap.size L (w2.drewN k) ((Reads.of_own hR2).drewN k) ((hRd.out.below hb2).drewN k) hl4)
    go_quiet (first | (go_at_call 16; exact quiet_left (HLen.out _)) | (go_at_call 23; exact quiet_more (HSame.out _)))
    have HM : Mine w (.slice A2 L.length k2) L.length (w2.drewN nq) := ⟨_, hR2, hb2.os, hb2.tape, hb2.output, hb2.size, hb2.block⟩
    clear HLen HSame HN HF HG HL hT0 hRd hR2 hb2 c1 c2 q1 q2 f1 f2 f3
    go_wp2_with fail
    go_loopw [17] (fun i wr => ∃ k : Nat, k ≤ L.length ∧ i = .int .i64 (k : Int) ∧ Mine w (.slice A2 L.length k2) L.length wr) (fun i _ => L.length - (intOf i).toNat)
    case atStart => exact ⟨0, Nat.zero_le _, rfl, HM⟩
    case round =>
      obtain ⟨k, hk, rfl, hM⟩ := hrel
      by_cases hlt2 : k < L.length
      · obtain ⟨r2, k3, he2, fz, ⟨u, hu⟩, hset⟩ := hM.open_ hlt2
        injection he2 with e1 e2 e3
        subst e1 e3
        clear e2 hM
        go_wp2_with fail
        go_roundw
        case rel => exact ⟨k + 1, by omega, by go_num, hset _⟩
        case measure => simp [intOf]; omega
      · go_wp2_with fail
        go_ret
        obtain ⟨xs, _, hb3⟩ := hM
        exact ⟨ret1_b rfl, HS.out.grown hb3⟩

set_option maxRecDepth 100000 in
set_option maxHeartbeats 8000000 in
theorem tells_high (B : Nat) (w0 : World) (g h : Nat) (L : List ByteArray) (n : Int) (s : ByteArray) (w : World) (hS : StR B w0 g h L w) (hn : 0 ≤ n) (hn2 : (L.length : Int) ≤ n) (hs : s.size ≤ maxLen) :
    Calls Try.prog 18 #[.pointer (some ⟨g, 0, none⟩), .pointer (some ⟨h, 0, none⟩), .int .i64 n, .string s] w fun e w' => e = .returned (.bool true) ∧ StR B w0 g h L w' := by
  have HS := Lib.hid hS
  obtain ⟨h1, h2, F, G, hT, hR, hF, hG, hd⟩ := hS

  have HN := Lib.hid (name_no g L n w F hT (.inr hn2))
  have HF := Lib.hid (find_any g L s w F hT hs)
  have HG := Lib.hid (rfind_any h L s w G hR hs)
  have HL := Lib.hid (all_any g L w F hT)
  have hT0 := Lib.hid hT
  obtain ⟨v, fl, fg, fv, hB, hRw, hsz, hl4, hby⟩ := hR
  obtain ⟨A0, cap, rfl, hc1, hc2⟩ := ownsRow_form hRw
  have hRd := Lib.hid (Reads.of_own hRw)
  have hh := hB.lt
  have c1 : w.cell? ⟨h, 0, none⟩ = some (.slice A0 L.length cap) := by rw [hB.cell]; rfl
  clear hT hB hRw hsz fl fv hF hG hd h1
  by_cases hm : s ∈ L
  · have f1 : fdN L s = (idx L s : Int) := by unfold fdN; rw [if_pos hm]
    have f2 : fdB L s = true := by unfold fdB; simp [hm]
    have f3 : rfN L s = (idx L s : Int) := by unfold rfN; rw [if_pos hm]
    clear hm
    go_enter Try.func18, Try.ntmps18
    go_wp2_with (first
        | (go_at_call 10; refine HN.out.mono ?_; rintro e w1 ⟨rfl, rfl⟩)
        | (go_at_call 11; refine HF.out.mono ?_; rintro e w1 ⟨rfl, rfl⟩)
        | (go_at_call 21; refine HG.out.mono ?_; rintro e w1 ⟨rfl, rfl⟩)
        | (go_at_call 19; refine HL.out.mono ?_; rintro e w2 ⟨v2, rfl, hR2, hb2⟩
           obtain ⟨A2, k2, rfl, q1, q2⟩ := ownsRow_form hR2
           have c2 : w2.cell? ⟨h, 0, none⟩ = some (.slice A0 L.length cap) := (hb2.cell (p := ⟨h, 0, none⟩) hh).trans c1))
    have HLen := Lib.hid (fun k => len_any g L (w2.drewN k) F (Tab.drewN (hT0.out.keep (Keep.new hb2 (F := fun k => w.heap.size ≤ k)) (fun r hr hs => by have := hT0.out.lt r hr; omega)) k))
    have HSame := Lib.hid (fun k => sameTexts_yes A2 A0 k2 cap w2.heap.size w.heap.size L (w2.drewN k) ((Reads.of_own hR2).drewN k) ((hRd.out.below hb2).drewN k) hl4)
    go_quiet (first | (go_at_call 16; exact quiet_left (HLen.out _)) | (go_at_call 23; exact quiet_more (HSame.out _)))
    have HM : Mine w (.slice A2 L.length k2) L.length (w2.drewN nq) := ⟨_, hR2, hb2.os, hb2.tape, hb2.output, hb2.size, hb2.block⟩
    clear HLen HSame HN HF HG HL hT0 hRd hR2 hb2 c1 c2 q1 q2 f1 f2 f3
    go_wp2_with fail
    go_loopw [17] (fun i wr => ∃ k : Nat, k ≤ L.length ∧ i = .int .i64 (k : Int) ∧ Mine w (.slice A2 L.length k2) L.length wr) (fun i _ => L.length - (intOf i).toNat)
    case atStart => exact ⟨0, Nat.zero_le _, rfl, HM⟩
    case round =>
      obtain ⟨k, hk, rfl, hM⟩ := hrel
      by_cases hlt2 : k < L.length
      · obtain ⟨r2, k3, he2, fz, ⟨u, hu⟩, hset⟩ := hM.open_ hlt2
        injection he2 with e1 e2 e3
        subst e1 e3
        clear e2 hM
        go_wp2_with fail
        go_roundw
        case rel => exact ⟨k + 1, by omega, by go_num, hset _⟩
        case measure => simp [intOf]; omega
      · go_wp2_with fail
        go_ret
        obtain ⟨xs, _, hb3⟩ := hM
        exact ⟨ret1_b rfl, HS.out.grown hb3⟩
  · have f1 : fdN L s = 0 := by unfold fdN; rw [if_neg hm]
    have f2 : fdB L s = false := by unfold fdB; simp [hm]
    have f3 : rfN L s = -1 := by unfold rfN; rw [if_neg hm]
    clear hm
    go_enter Try.func18, Try.ntmps18
    go_wp2_with (first
        | (go_at_call 10; refine HN.out.mono ?_; rintro e w1 ⟨rfl, rfl⟩)
        | (go_at_call 11; refine HF.out.mono ?_; rintro e w1 ⟨rfl, rfl⟩)
        | (go_at_call 21; refine HG.out.mono ?_; rintro e w1 ⟨rfl, rfl⟩)
        | (go_at_call 19; refine HL.out.mono ?_; rintro e w2 ⟨v2, rfl, hR2, hb2⟩
           obtain ⟨A2, k2, rfl, q1, q2⟩ := ownsRow_form hR2
           have c2 : w2.cell? ⟨h, 0, none⟩ = some (.slice A0 L.length cap) := (hb2.cell (p := ⟨h, 0, none⟩) hh).trans c1))
    have HLen := Lib.hid (fun k => len_any g L (w2.drewN k) F (Tab.drewN (hT0.out.keep (Keep.new hb2 (F := fun k => w.heap.size ≤ k)) (fun r hr hs => by have := hT0.out.lt r hr; omega)) k))
    have HSame := Lib.hid (fun k => sameTexts_yes A2 A0 k2 cap w2.heap.size w.heap.size L (w2.drewN k) ((Reads.of_own hR2).drewN k) ((hRd.out.below hb2).drewN k) hl4)
    go_quiet (first | (go_at_call 16; exact quiet_left (HLen.out _)) | (go_at_call 23; exact quiet_more (HSame.out _)))
    have HM : Mine w (.slice A2 L.length k2) L.length (w2.drewN nq) := ⟨_, hR2, hb2.os, hb2.tape, hb2.output, hb2.size, hb2.block⟩
    clear HLen HSame HN HF HG HL hT0 hRd hR2 hb2 c1 c2 q1 q2 f1 f2 f3
    go_wp2_with fail
    go_loopw [17] (fun i wr => ∃ k : Nat, k ≤ L.length ∧ i = .int .i64 (k : Int) ∧ Mine w (.slice A2 L.length k2) L.length wr) (fun i _ => L.length - (intOf i).toNat)
    case atStart => exact ⟨0, Nat.zero_le _, rfl, HM⟩
    case round =>
      obtain ⟨k, hk, rfl, hM⟩ := hrel
      by_cases hlt2 : k < L.length
      · obtain ⟨r2, k3, he2, fz, ⟨u, hu⟩, hset⟩ := hM.open_ hlt2
        injection he2 with e1 e2 e3
        subst e1 e3
        clear e2 hM
        go_wp2_with fail
        go_roundw
        case rel => exact ⟨k + 1, by omega, by go_num, hset _⟩
        case measure => simp [intOf]; omega
      · go_wp2_with fail
        go_ret
        obtain ⟨xs, _, hb3⟩ := hM
        exact ⟨ret1_b rfl, HS.out.grown hb3⟩

theorem tells_any (B : Nat) (w0 : World) (g h : Nat) (L : List ByteArray) (n : Int) (s : ByteArray) (w : World) (hS : StR B w0 g h L w) (hs : s.size ≤ maxLen) :
    Calls Try.prog 18 #[.pointer (some ⟨g, 0, none⟩), .pointer (some ⟨h, 0, none⟩), .int .i64 n, .string s] w fun e w' => e = .returned (.bool true) ∧ StR B w0 g h L w' := by
  by_cases h0 : n < 0
  · exact tells_low B w0 g h L n s w hS h0 hs
  · by_cases h1 : (L.length : Int) ≤ n
    · exact tells_high B w0 g h L n s w hS (by omega) h1 hs
    · obtain ⟨m, rfl⟩ := Int.eq_ofNat_of_zero_le (by omega : 0 ≤ n)
      have hm : m < L.length := by omega
      exact tells_in B w0 g h L m _ s w hS (List.getElem?_eq_getElem hm) hs
end Go.Proofs.Ytnomnkohhfkdnaa.At
