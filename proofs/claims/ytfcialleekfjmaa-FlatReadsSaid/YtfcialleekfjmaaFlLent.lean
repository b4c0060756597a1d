/- Words lent with a spare tail, kept, written over (as XArLent). -/
import Derived.Test.YtfcialleekfjmaaFlPart
import Derived.Test.YtfcialleekfjmaaSameWords
import Derived.Test.YtfcialleekfjmaaSteps
namespace Go.Proofs.Ytfcialleekfjmaa.Fl
open Go.RowKit K At Wd
set_option linter.unusedVariables false
set_option linter.unusedSimpArgs false

theorem bal {w x : World} (h : Below w.heap.size w x) (o : Obj) : Below w.heap.size w (x.alloc o) := h.alloc h.size o
theorem u64s_one (l : List Int) : ∀ u ∈ u64s l, u.oneCell' = true := by
  intro u hu
  unfold u64s at hu
  obtain ⟨a, _, rfl⟩ := List.mem_map.1 hu
  rfl
theorem app1 (w wx : World) (hb : Below w.heap.size w wx) (sA : Nat) (hA : wx.ownsRow w.heap.size 49 1 (.slice (some ⟨sA, 0, none⟩) 0 0) 0 []) (A : Option Addr) (c k : Nat) (xs : List Value) (hr : Reads w w.heap.size 1 A k xs) (h1 : ∀ u ∈ xs, u.oneCell' = true) (hl : k ≤ 1099511627776) :
    ∃ A1 c1 w1, (Builtin.append_ #[25, 25] 25 #[.slice (some ⟨sA, 0, none⟩) 0 0, .slice A k c]).run Try.prog wx = .ok (.slice A1 k c1) w1 ∧ w1.ownsRow w.heap.size 49 1 (.slice A1 k c1) k xs ∧ Below w.heap.size w w1 := by
  obtain ⟨i0, hi, hz0, hz1, hz2⟩ := info_parts infoW
  obtain ⟨v1, w1, run1, o1, gr1, at1⟩ := run_append_any (P := Try.prog) wx w.heap.size 25 25 49 i0 _ 1 8 Try.underlying25 hi hz0 hz1 hz2 rfl (by decide) (.slice (some ⟨sA, 0, none⟩) 0 0) 0 [] hA w.heap.size A k c xs (hr.below hb)
    h1 (by unfold maxLen; omega) (by omega) hb.size
  rw [Nat.zero_add, List.nil_append] at o1
  obtain ⟨A1, c1, rfl, _, _⟩ := ownsRow_form o1
  exact ⟨A1, c1, w1, run1, o1, hb.grown gr1 hb.size (fun r hr2 => (hA.lt r hr2).1)⟩
theorem lit_own (w : World) (x : World) (hb : Below w.heap.size w x) : (x.alloc (.cells #[] 49)).ownsRow w.heap.size 49 1 (.slice (some ⟨x.heap.size, 0, none⟩) 0 0) 0 [] :=
  ownsRow_base (World.ownsRow_lit (base := x.heap.size) (e := 49) (size := 1) x #[] 0 (Nat.le_refl _) (Nat.zero_le _) (by simp)) (fun r hr => by
    have : r = x.heap.size := by simpa [Value.ownBlock] using hr.symm
    rw [this]; exact hb.size)
theorem add_zero (b n : Nat) : (⟨b, 0, none⟩ : Addr).add n = ⟨b, n, none⟩ := by
  unfold Addr.add
  split
  · rename_i h; simp [h]
  · simp
def spW : List Int := [77, 78, 79]
set_option maxRecDepth 100000 in
set_option maxHeartbeats 4000000 in
theorem lentW_any (A : Option Addr) (c : Nat) (ws : List Int) (w : World) (hr : Reads w w.heap.size 1 A ws.length (u64s ws)) (hl : ws.length ≤ 1000) :
    Calls Try.prog 25 #[.slice A ws.length c] w fun e w' => ∃ b cc, e = .returned (.slice (some ⟨b, 0, none⟩) ws.length cc) ∧ w'.ownsRow w.heap.size 49 1 (.slice (some ⟨b, 0, none⟩) (ws.length + 3) cc) (ws.length + 3) (u64s (ws ++ spW)) ∧ Below w.heap.size w w' := by
  obtain ⟨A1, c1, w1, run1, o1, b1⟩ := app1 w (w.alloc (.cells #[] 49)) (bal (Below.refl _ _) _) w.heap.size (lit_own w w (Below.refl _ _)) A c ws.length (u64s ws) hr (u64s_one ws) (by omega)
  obtain ⟨i0, hi, hz0, hz1, hz2⟩ := info_parts infoW
  have hX := Blk.new w1 49 #[.int .u64 77, .int .u64 78, .int .u64 79]
  obtain ⟨v2, w2, run2, o2, gr2, _, at2⟩ := run_append_own_at (P := Try.prog) (w1.alloc (.cells #[.int .u64 77, .int .u64 78, .int .u64 79] 49)) w.heap.size 25 25 49 i0 _ 1 8 Try.underlying25 hi hz0 hz1 hz2 rfl (by decide) (.slice A1 ws.length c1) ws.length (u64s ws) (o1.alloc _)
    ⟨w1.heap.size, 0, none⟩ 3 3 [.int .u64 77, .int .u64 78, .int .u64 79] rfl (fun j u hj => by
    rcases j with _ | _ | _ | j
    · simp at hj; subst hj; simp [Addr.add]
    · simp at hj; subst hj; simp [Addr.add]
    · simp at hj; subst hj; simp [Addr.add]
    · simp at hj) (by simp [Value.oneCell']) (by unfold maxLen; omega) (by omega) (by have := b1.size; simp; omega)
  obtain ⟨b, cc, hv, _, _⟩ := World.ownsRow.form o2 (by omega)
  subst hv
  obtain ⟨A', c', hf, hcl, hcm⟩ := ownsRow_form o2
  injection hf with e1 _ e2
  subst e1 e2
  have hb2 := (bal b1 (.cells #[.int .u64 77, .int .u64 78, .int .u64 79] 49)).grown gr2 (bal b1 _).size (fun r hr => (o1.lt r hr).1)
  have e1 : u64s ws ++ [.int .u64 77, .int .u64 78, .int .u64 79] = u64s (ws ++ spW) := by simp [u64s, spW]
  rw [e1] at o2
  have HR1 := Lib.hid run1; have HR2 := Lib.hid run2; have HO := Lib.hid o2; have HB := Lib.hid hb2
  unfold maxLen at hcm
  have hi1 : (ws.length : Int) ≤ (cc : Int) := by omega
  have hi2 : ws.length ≤ cc := by omega
  clear run1 run2 o1 o2 b1 gr2 at2 hb2 hr hX e1 hi hz0 hz1 hz2
  go_enter Try.func25, Try.ntmps25
  go_wp2_with (first
    | (at_builtin; refine wpList_append_run (o := ⟨some 6, _, _, _, _, _⟩) (.tmp 4) (.tmp 5) 25 _ _ _ HR1.out rfl rfl (by simp [Act.eval, Act.put]) (by simp [Act.eval, Act.put]) ?_)
    | (at_builtin; refine wpList_append_run (o := ⟨some 9, _, _, _, _, _⟩) (.tmp 7) (.tmp 8) 25 _ _ _ HR2.out rfl rfl (by simp [Act.eval, Act.put]) (by simp [Act.eval, Act.put]) ?_)
    | fail)
  go_ret
  exact ⟨b, cc, rfl, HO.out, HB.out⟩
theorem spW_at (ws : List Int) : (u64s (ws ++ spW))[ws.length]? = some (.int .u64 77) ∧ (u64s (ws ++ spW))[ws.length + 1]? = some (.int .u64 78) ∧ (u64s (ws ++ spW))[ws.length + 2]? = some (.int .u64 79) := by
  unfold u64s spW
  refine ⟨?_, ?_, ?_⟩ <;> simp
theorem Reads.firstA {w : World} {B n m : Nat} {A : Option Addr} {xs ys : List Value} (h : Reads w B 1 A (n + m) (xs ++ ys)) (hx : xs.length = n) : Reads w B 1 A n xs := by
  refine ⟨by omega, fun hn => ?_⟩
  obtain ⟨ad, e, hb, hc⟩ := h.2 (by omega)
  exact ⟨ad, e, hb, fun j u hj => hc j u (by rw [List.getElem?_append_left (List.getElem?_eq_some_iff.1 hj).1]; exact hj)⟩
set_option maxRecDepth 100000 in
set_option maxHeartbeats 4000000 in
theorem keptW_any (b cc : Nat) (A : Option Addr) (c B B' : Nat) (ws : List Int) (w : World) (h1 : Reads w B 1 (some ⟨b, 0, none⟩) (ws.length + 3) (u64s (ws ++ spW))) (hcc : ws.length + 3 ≤ cc) (hcm : cc ≤ maxLen) (h2 : Reads w B' 1 A ws.length (u64s ws)) (hl : ws.length ≤ 1000) :
    Calls Try.prog 29 #[.slice (some ⟨b, 0, none⟩) ws.length cc, .slice A ws.length c] w fun e w' => e = .returned (.bool true) ∧ ∃ d, w' = w.drewN d := by
  have HS := Lib.hid (sameWords_yes (some ⟨b, 0, none⟩) A cc c B B' ws w (by
    have e : u64s (ws ++ spW) = u64s ws ++ u64s spW := by simp [u64s]
    rw [e] at h1
    exact Reads.firstA h1 (u64s_len ws)) h2 (by omega))
  obtain ⟨s1, s2, s3⟩ := spW_at ws
  obtain ⟨ad, e, _, hc⟩ := h1.2 (by omega)
  injection e with e
  subst e
  have c1 : w.cell? ⟨b, ws.length, none⟩ = some (.int .u64 77) := by have := hc _ _ s1; rwa [add_zero] at this
  have c2 : w.cell? ⟨b, ws.length + 1, none⟩ = some (.int .u64 78) := by have := hc _ _ s2; rwa [add_zero] at this
  have c3 : w.cell? ⟨b, ws.length + 2, none⟩ = some (.int .u64 79) := by have := hc _ _ s3; rwa [add_zero] at this
  unfold maxLen at hcm
  obtain ⟨n, hn⟩ : ∃ n, ws.length = n := ⟨_, rfl⟩
  rw [hn] at HS c1 c2 c3 hl hcc ⊢
  have hd1 : decide ((cc : Int) < (n : Int) + 3) = false := decide_eq_false (by omega)
  have hi1 : (n : Int) + 3 ≤ (cc : Int) := by omega
  have hi0 : (0 : Int) ≤ (n : Int) := by omega
  clear h1 h2 hc s1 s2 s3 hn
  go_enter Try.func29, Try.ntmps29
  go_wp2_with (first
    | (go_at_call 19; refine HS.out.mono ?_; rintro e w' ⟨rfl, d, rfl⟩)
    | fail)
  go_ret
  exact ⟨ret1_b rfl, _, rfl⟩
set_option maxRecDepth 100000 in
set_option maxHeartbeats 4000000 in
theorem overW_any (base : Nat) (v : Value) (n : Nat) (xs : List Value) (w : World) (hr : w.ownsRow base 49 1 v n xs) :
    Calls Try.prog 28 #[v] w fun e w' => e = .returned (.tuple #[]) ∧ w.grownBy w' v.ownBlock := by
  rcases hr.2 with ⟨rfl, rfl⟩ | ⟨g, cap, cur, rfl, hbg, hg, hnc, hcm, hcs, htake⟩
  · go_enter Try.func28, Try.ntmps28
    go_wp2_with fail
    go_loopw [2] (fun i w' => i = .int .i64 0 ∧ w = w') (fun i _ => 0)
    case atStart => exact ⟨rfl, rfl⟩
    case round =>
      obtain ⟨rfl, rfl⟩ := hrel
      go_wp2_with fail
      go_end0
      exact ⟨rfl, World.grownBy.refl _ _⟩
  · have hcap : cap ≤ 9223372036854775807 := by unfold maxLen at hcm; omega
    have HCS := Lib.hid (show cur.size = cap from by omega)
    have HG := Lib.hid (show Blk w g 49 cur from hg)
    clear hr hg hcs htake
    go_enter Try.func28, Try.ntmps28
    go_wp2_with fail
    go_loopw [2] (fun i w' => ∃ (k : Nat) (c' : Array Value), k ≤ cap ∧ i = .int .i64 (k : Int) ∧ Blk w' g 49 c' ∧ c'.size = cap ∧ w.grownBy w' (some g)) (fun i _ => cap - (intOf i).toNat)
    case atStart => exact ⟨0, cur, Nat.zero_le _, rfl, HG.out, HCS.out, World.grownBy.refl _ _⟩
    case round =>
      obtain ⟨k, c', hk, rfl, hG, hcs, hgr⟩ := hrel
      by_cases hlt : k < cap
      · obtain ⟨u, hcu⟩ : ∃ u, c'[k]? = some u := ⟨_, Array.getElem?_eq_getElem (by omega)⟩
        have hcell : wr.cell? ⟨g, k, none⟩ = some u := by rw [hG.cell]; exact hcu
        have hfz := hG.frozen k
        have HG2 := Lib.hid (hG.set_ k (.int .u64 99))
        have HGR := Lib.hid hgr
        clear hG hgr hcu
        go_wp2_with fail
        refine ⟨⟨k + 1, _, by omega, by go_num, HG2.out, by rw [Array.size_setIfInBounds]; exact hcs, ?_⟩, by simp [intOf]; omega⟩
        refine HGR.out.trans ⟨rfl, rfl, rfl, by simp [World.setCell], fun j _ hj => ?_⟩
        exact Below.heap_setCell _ _ _ j (fun e => hj (congrArg some e))
      · obtain rfl : k = cap := by omega
        have HGR := Lib.hid hgr
        clear hG hgr
        go_wp2_with fail
        go_end0
        exact ⟨rfl, HGR.out⟩
end Go.Proofs.Ytfcialleekfjmaa.Fl
