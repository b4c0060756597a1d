/- Words lent with a spare tail, kept, written over; an argument's inner slice of integers. -/
import Derived.Test.YtnanacokclcbfaaRefAr2
import Derived.Test.YtnanacokclcbfaaSameWords
import Derived.Test.YtnanacokclcbfaaOpen
namespace Go.Proofs.Ytnanacokclcbfaa.K
open Go.RowKit Go.ChangeShapes Go.WideShapes
set_option linter.unusedVariables false
section
variable {H : Type} {enc : TypeId × Value → H} {P : Program} {W : World}
theorem open_ints_in {t e : TypeId} {k : IntKind} {v : Value} {x : DataW H × List MemPlace} {fuel base : Nat} {held : Bool} (ht : P.underlying t = some (.slice e)) (he : P.underlying e = some (.int k)) (hc : P.cellsOf e = 1)
    (hf : DataW.trod enc P W base (fun _ => true) held fuel t [v] = some x) :
    ∃ (A : Option Addr) (c : Nat) (xs : List Int), v = .slice A xs.length c ∧ Reads W W.heap.size 1 A xs.length (xs.map (Value.int k)) ∧ (∀ n ∈ xs, (Lit.int k n).wf = true) ∧ xs.length ≤ c ∧ c ≤ maxLen ∧ (A = none → c = 0) := by
  rcases open_ints ht he hc hf with ⟨hcs, _⟩ | ⟨a', n, c, ss, hcs, _, hl, hm, hz, _, hcell, hws⟩
  · simp only [List.cons.injEq, and_true] at hcs
    subst hcs
    exact ⟨none, 0, [], rfl, Reads.none_, by simp, by simp, by simp [maxLen], fun _ => rfl⟩
  · simp only [List.cons.injEq, and_true] at hcs
    subst hcs
    simp only [if_true] at hz
    have hlen : (ss.take n).length = n := by rw [List.length_take]; omega
    refine ⟨some a', c, ss.take n, by rw [hlen], ⟨by rw [List.length_map]; omega, fun hpos => ?_⟩, fun s hs => hws s (List.mem_of_mem_take hs), by rw [hlen]; exact hl, hm, fun h => by cases h⟩
    rw [hlen] at hpos
    have hb := World.block_lt_of_cell? _ _ (hcell 0 (by omega))
    rw [block_of_add] at hb
    refine ⟨a', rfl, hb, fun j u hj => ?_⟩
    have hjl : j < n := by
      have := (List.getElem?_eq_some_iff.1 hj).1
      rw [List.length_map, hlen] at this
      exact this
    rw [hcell j (by omega)]
    rw [List.getElem?_map, List.getElem?_take, if_pos hjl] at hj
    have : ss[j]? = some (ss[j]'(by omega)) := List.getElem?_eq_getElem (by omega)
    rw [this] at hj
    simp at hj
    rw [← hj]
    simp [List.getD, this]
end
end Go.Proofs.Ytnanacokclcbfaa.K
namespace Go.Proofs.Ytnanacokclcbfaa.Ar
open Go.RowKit K
set_option linter.unusedVariables false
set_option linter.unusedSimpArgs false

theorem add_zero (b n : Nat) : (⟨b, 0, none⟩ : Addr).add n = ⟨b, n, none⟩ := by
  unfold Addr.add
  split
  · rename_i h; simp [h]
  · simp
def spW : List Int := [77, 78, 79]
set_option maxRecDepth 100000 in
set_option maxHeartbeats 4000000 in
theorem lentW_any (A : Option Addr) (c : Nat) (ws : List Int) (w : World) (hr : Reads w w.heap.size 1 A ws.length (wds ws)) (hl : ws.length ≤ 1000) :
    Calls Try.prog 32 #[.slice A ws.length c] w fun e w' => ∃ b cc, e = .returned (.slice (some ⟨b, 0, none⟩) ws.length cc) ∧ w'.ownsRow w.heap.size 68 1 (.slice (some ⟨b, 0, none⟩) (ws.length + 3) cc) (ws.length + 3) (wds (ws ++ spW)) ∧ Below w.heap.size w w' := by
  obtain ⟨A1, c1, w1, run1, o1, b1⟩ := app1 w (w.alloc (.cells #[] 68)) (bal (Below.refl _ _) _) w.heap.size (lit_own w w (Below.refl _ _)) A c ws.length (wds ws) hr (wds_one ws) (by omega)
  obtain ⟨i0, hi, hz0, hz1, hz2⟩ := info_parts infoU64'
  have hX := Blk.new w1 68 #[.int .u64 77, .int .u64 78, .int .u64 79]
  obtain ⟨v2, w2, run2, o2, gr2, _, at2⟩ := run_append_own_at (P := Try.prog) (w1.alloc (.cells #[.int .u64 77, .int .u64 78, .int .u64 79] 68)) w.heap.size 32 32 68 i0 _ 1 8 Try.underlying32 hi hz0 hz1 hz2 rfl (by decide) (.slice A1 ws.length c1) ws.length (wds ws) (o1.alloc _)
    ⟨w1.heap.size, 0, none⟩ 3 3 [.int .u64 77, .int .u64 78, .int .u64 79] rfl (fun j u hj => by
    rcases j with _ | _ | _ | j
    · simp at hj; subst hj; simp [Addr.add]
    · simp at hj; subst hj; simp [Addr.add]
    · simp at hj; subst hj; simp [Addr.add]
    · simp at hj) (by simp [Value.oneCell']) (by unfold maxLen; omega) (by omega) (by have := b1.size; simp; omega)
  obtain ⟨b, cc, hv, _, _⟩ := World.ownsRow.form o2 (by omega)
  subst hv
  obtain ⟨A', c', hf, hcl, hcm⟩ := ownsRow_form o2
  injection hf with e1 _ e2
  subst e1 e2
  have hb2 := (bal b1 (.cells #[.int .u64 77, .int .u64 78, .int .u64 79] 68)).grown gr2 (bal b1 _).size (fun r hr => (o1.lt r hr).1)
  have e1 : wds ws ++ [.int .u64 77, .int .u64 78, .int .u64 79] = wds (ws ++ spW) := by simp [wds, spW]
  rw [e1] at o2
  have HR1 := Lib.hid run1; have HR2 := Lib.hid run2; have HO := Lib.hid o2; have HB := Lib.hid hb2
  unfold maxLen at hcm
  have hi1 : (ws.length : Int) ≤ (cc : Int) := by omega
  have hi2 : ws.length ≤ cc := by omega
  clear run1 run2 o1 o2 b1 gr2 at2 hb2 hr hX e1 hi hz0 hz1 hz2
  go_enter Try.func32, Try.ntmps32
  go_wp2_with (first
    | (at_builtin; refine wpList_append_run (o := ⟨some 6, _, _, _, _, _⟩) (.tmp 4) (.tmp 5) 32 _ _ _ HR1.out rfl rfl (by simp [Act.eval, Act.put]) (by simp [Act.eval, Act.put]) ?_)
    | (at_builtin; refine wpList_append_run (o := ⟨some 9, _, _, _, _, _⟩) (.tmp 7) (.tmp 8) 32 _ _ _ HR2.out rfl rfl (by simp [Act.eval, Act.put]) (by simp [Act.eval, Act.put]) ?_)
    | fail)
  go_ret
  exact ⟨b, cc, rfl, HO.out, HB.out⟩
theorem spW_at (ws : List Int) : (wds (ws ++ spW))[ws.length]? = some (.int .u64 77) ∧ (wds (ws ++ spW))[ws.length + 1]? = some (.int .u64 78) ∧ (wds (ws ++ spW))[ws.length + 2]? = some (.int .u64 79) := by
  unfold wds spW
  refine ⟨?_, ?_, ?_⟩ <;> simp
theorem Reads.first {w : World} {B n m : Nat} {A : Option Addr} {xs ys : List Value} (h : Reads w B 1 A (n + m) (xs ++ ys)) (hx : xs.length = n) : Reads w B 1 A n xs := by
  refine ⟨by omega, fun hn => ?_⟩
  obtain ⟨ad, e, hb, hc⟩ := h.2 (by omega)
  exact ⟨ad, e, hb, fun j u hj => hc j u (by rw [List.getElem?_append_left (List.getElem?_eq_some_iff.1 hj).1]; exact hj)⟩
set_option maxRecDepth 100000 in
set_option maxHeartbeats 4000000 in
theorem keptW_any (b cc : Nat) (A : Option Addr) (c B B' : Nat) (ws : List Int) (w : World) (h1 : Reads w B 1 (some ⟨b, 0, none⟩) (ws.length + 3) (wds (ws ++ spW))) (hcc : ws.length + 3 ≤ cc) (hcm : cc ≤ maxLen) (h2 : Reads w B' 1 A ws.length (wds ws)) (hl : ws.length ≤ 1000) :
    Calls Try.prog 38 #[.slice (some ⟨b, 0, none⟩) ws.length cc, .slice A ws.length c] w fun e w' => e = .returned (.bool true) ∧ ∃ d, w' = w.drewN d := by
  have HS := Lib.hid (sameWords_yes (some ⟨b, 0, none⟩) A cc c B B' ws w (by
    have e : wds (ws ++ spW) = wds ws ++ wds spW := by simp [wds]
    rw [e] at h1
    exact Reads.first h1 (wds_length ws)) h2 (by omega))
  obtain ⟨s1, s2, s3⟩ := spW_at ws
  obtain ⟨ad, e, _, hc⟩ := h1.2 (by omega)
  injection e with e
  subst e
  have c1 : w.cell? ⟨b, ws.length, none⟩ = some (.int .u64 77) := by have := hc _ _ s1; rwa [add_zero] at this
  have c2 : w.cell? ⟨b, ws.length + 1, none⟩ = some (.int .u64 78) := by have := hc _ _ s2; rwa [add_zero] at this
  have c3 : w.cell? ⟨b, ws.length + 2, none⟩ = some (.int .u64 79) := by have := hc _ _ s3; rwa [add_zero] at this
  unfold maxLen at hcm
  obtain ⟨n, hn⟩ : ∃ n, ws.length = n := ⟨_, rfl⟩
  rw [hn] at HS c1 c2 c3 hl hcc ⊢
  have hd1 : decide ((cc : Int) < (n : Int) + 3) = false := decide_eq_false (by omega)
  have hi1 : (n : Int) + 3 ≤ (cc : Int) := by omega
  have hi0 : (0 : Int) ≤ (n : Int) := by omega
  clear h1 h2 hc s1 s2 s3 hn
  go_enter Try.func38, Try.ntmps38
  go_wp2_with (first
    | (go_at_call 25; refine HS.out.mono ?_; rintro e w' ⟨rfl, d, rfl⟩)
    | fail)
  go_ret
  exact ⟨ret1_b rfl, _, rfl⟩
set_option maxRecDepth 100000 in
set_option maxHeartbeats 4000000 in
theorem overW_any (base : Nat) (v : Value) (n : Nat) (xs : List Value) (w : World) (hr : w.ownsRow base 68 1 v n xs) :
    Calls Try.prog 35 #[v] w fun e w' => e = .returned (.tuple #[]) ∧ w.grownBy w' v.ownBlock := by
  rcases hr.2 with ⟨rfl, rfl⟩ | ⟨g, cap, cur, rfl, hbg, hg, hnc, hcm, hcs, htake⟩
  · go_enter Try.func35, Try.ntmps35
    go_wp2_with fail
    go_loopw [2] (fun i w' => i = .int .i64 0 ∧ w = w') (fun i _ => 0)
    case atStart => exact ⟨rfl, rfl⟩
    case round =>
      obtain ⟨rfl, rfl⟩ := hrel
      go_wp2_with fail
      go_end0
      exact ⟨rfl, World.grownBy.refl _ _⟩
  · have hcap : cap ≤ 9223372036854775807 := by unfold maxLen at hcm; omega
    have HCS := Lib.hid (show cur.size = cap from by omega)
    have HG := Lib.hid (show Blk w g 68 cur from hg)
    clear hr hg hcs htake
    go_enter Try.func35, Try.ntmps35
    go_wp2_with fail
    go_loopw [2] (fun i w' => ∃ (k : Nat) (c' : Array Value), k ≤ cap ∧ i = .int .i64 (k : Int) ∧ Blk w' g 68 c' ∧ c'.size = cap ∧ w.grownBy w' (some g)) (fun i _ => cap - (intOf i).toNat)
    case atStart => exact ⟨0, cur, Nat.zero_le _, rfl, HG.out, HCS.out, World.grownBy.refl _ _⟩
    case round =>
      obtain ⟨k, c', hk, rfl, hG, hcs, hgr⟩ := hrel
      by_cases hlt : k < cap
      · obtain ⟨u, hcu⟩ : ∃ u, c'[k]? = some u := ⟨_, Array.getElem?_eq_getElem (by omega)⟩
        have hcell : wr.cell? ⟨g, k, none⟩ = some u := by rw [hG.cell]; exact hcu
        have hfz := hG.frozen k
        have HG2 := Lib.hid (hG.set_ k (.int .u64 99))
        have HGR := Lib.hid hgr
        clear hG hgr hcu
        go_wp2_with fail
        refine ⟨⟨k + 1, _, by omega, by go_num, HG2.out, by rw [Array.size_setIfInBounds]; exact hcs, ?_⟩, by simp [intOf]; omega⟩
        refine HGR.out.trans ⟨rfl, rfl, rfl, by simp [World.setCell], fun j _ hj => ?_⟩
        exact Below.heap_setCell _ _ _ j (fun e => hj (congrArg some e))
      · obtain rfl : k = cap := by omega
        have HGR := Lib.hid hgr
        clear hG hgr
        go_wp2_with fail
        go_end0
        exact ⟨rfl, HGR.out⟩
/-- A slice that ends ahead of its row's end. -/
theorem own_cut {w : World} {base n m c : Nat} {t : TypeId} {A : Option Addr} {xs : List Value} (h : w.ownsRow base t 1 (.slice A (n + m) c) (n + m) xs) (hp : 0 < n + m) : w.ownsRow base t 1 (.slice A n c) n (xs.take n) := by
  refine ⟨by rw [List.length_take, h.1]; omega, ?_⟩
  rcases h.2 with ⟨h', _⟩ | ⟨g, cap, cur, hv, hb, hg, hnc, hcm, hcs, ht⟩
  · injection h' with _ h'
    omega
  · injection hv with e1 _ e2
    subst e1 e2
    refine .inr ⟨g, c, cur, rfl, hb, hg, by omega, hcm, hcs, ?_⟩
    rw [← ht, List.take_take]
    congr 1
    omega
end Go.Proofs.Ytnanacokclcbfaa.Ar
