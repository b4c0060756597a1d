/- Buckets of a law's own; added, has, two, awake, each by its contract. -/
import Derived.Test.YtjipncpplpfobaaLbSplit
import Derived.Test.YtjipncpplpfobaaLbJoin
namespace Go.Proofs.Ytjipncpplpfobaa.Lb
open Go.RowKit K Hs
set_option linter.unusedVariables false
set_option linter.unusedSimpArgs false

/-- Buckets; blocks in X are others', and lie as in w0. -/
def St (X : Nat → Prop) (w0 : World) (g least : Nat) (cnt : Int) (L : List (List It)) (W : World) : Prop :=
  Keep (fun k => ¬ X k) w0 W ∧ (∀ k, X k → k < w0.heap.size) ∧ ∃ G gr cap, LB W G g least cnt gr cap L ∧ ∀ k, G k → ¬ X k
section
variable {X : Nat → Prop} {w0 W W' : World} {g least : Nat} {cnt cnt' : Int} {L L' : List (List It)}
theorem St.step {G : Nat → Prop} {gr' cap' : Nat} (hb : Keep (fun k => ¬ X k) w0 W) (hX : ∀ k, X k → k < w0.heap.size) (hG : ∀ k, G k → ¬ X k) (hL : LB W' (upG G W W') g least cnt' gr' cap' L') (hk : Keep G W W') : St X w0 g least cnt' L' W' :=
  ⟨hb.trans hk (fun i _ hi => hG i hi), hX, _, _, _, hL, fun k hk2 hx => by
    rcases hk2 with h | h
    · exact hG k h hx
    · have := hX k hx; have := hb.size; omega⟩
theorem St.later (h : St X w0 g least cnt L W) (hb : Below W.heap.size W W') : St X w0 g least cnt L W' := by
  obtain ⟨h1, h2, G, gr, cap, hL, hG⟩ := h
  exact ⟨h1.trans (Keep.new (F := fun _ => False) hb) (fun _ _ h => h.elim), h2, G, gr, cap, hL.keep (F := fun _ => False) (Keep.new hb) (fun _ _ h => h), hG⟩
theorem St.new {w : World} {n : Nat} {gr cap : Nat} (h : LB W (fun k => w.heap.size ≤ k ∧ k < W.heap.size) g n 0 gr cap (List.replicate n [])) (hb : Below w.heap.size w W) : St (· < w.heap.size) w g n 0 (List.replicate n []) W :=
  ⟨Keep.of_below hb (fun i hi h => by omega), fun k hk => hk, _, gr, cap, h, fun k hk => by have := hk.1; omega⟩
theorem St.drewN (h : St X w0 g least cnt L W) (d : Nat) : St X w0 g least cnt L (W.drewN d) := h.later ⟨rfl, rfl, rfl, Nat.le_refl _, fun _ _ => rfl⟩
theorem St.below {B0 : Nat} (h : St (· < B0) w0 g least cnt L W) (hB : B0 ≤ w0.heap.size) : Below B0 w0 W := h.1.to_below hB (fun i _ hi => by omega)
/-- Other blocks are told of now. -/
theorem St.base {X' : Nat → Prop} (h : St X w0 g least cnt L W) (hb : Below W.heap.size W W') (hX : ∀ k, X' k → W.heap.size ≤ k ∧ k < W'.heap.size) : St (fun k => X' k ∨ X k) W' g least cnt L W' := by
  obtain ⟨h1, h2, G, gr, cap, hL, hG⟩ := h
  refine ⟨Keep.refl _ _, fun k hk => ?_, G, gr, cap, hL.keep (F := fun _ => False) (Keep.new hb) (fun _ _ h => h), fun k hk hx => ?_⟩
  · rcases hk with h | h
    · exact (hX k h).2
    · have := h2 k h; have := h1.size; have := hb.size; omega
  · rcases hx with h | h
    · have := hL.1 k hk; have := (hX k h).1; omega
    · exact hG k hk h
theorem St.cell (h : St X w0 g least cnt L W) {p : Addr} (hp : X p.block) : W.cell? p = w0.cell? p := h.1.cell (h.2.1 _ hp) (fun hn => hn hp)
/-- How great. -/
def Ok (cnt : Int) (L : List (List It)) : Prop := 1 ≤ L.length ∧ L.length ≤ 65536 ∧ 0 ≤ cnt ∧ cnt ≤ 65536 ∧ (∀ l ∈ L, l.length ≤ 65536) ∧ ∀ l ∈ L, ∀ x ∈ l, 0 ≤ x.1 ∧ x.1 ≤ 4294967295
theorem st_add (hS : St X w0 g least cnt L W) (hO : Ok cnt L) (h id : Int) (h0 : 0 ≤ h ∧ h ≤ 4294967295) (hid : (Lit.int .i64 id).wf = true) :
    Calls Try.prog 12 #[.pointer (some ⟨g, 0, none⟩), .int .u32 h, .int .i64 id] W fun e w' => e = .returned (.tuple #[.int .i64 (bk h L.length : Int), .int .i64 0]) ∧ St X w0 g least (cnt + 1) (addL L (bk h L.length) (h, id)) w' := by
  obtain ⟨h1, h2, G, gr, cap, hL, hG⟩ := hS
  obtain ⟨o1, o2, o3, o4, o5, o6⟩ := hO
  exact (add_any hL h id h0.1 h0.2 hid o1 (by omega) o3 (by omega) (fun l hl => by have := o5 l hl; omega)).mono fun e w' ⟨a, b, c⟩ => ⟨a, St.step h1 h2 hG b c⟩
theorem st_rem (hS : St X w0 g least cnt L W) (hO : Ok cnt L) (h id : Int) (h0 : 0 ≤ h ∧ h ≤ 4294967295) :
    Calls Try.prog 14 #[.pointer (some ⟨g, 0, none⟩), .int .u32 h, .int .i64 id] W fun e w' => e = .returned (.bool (hasI (L.getD (bk h L.length) []) (h, id))) ∧ St X w0 g least (if hasI (L.getD (bk h L.length) []) (h, id) then cnt - 1 else cnt) (remL L (bk h L.length) (h, id)) w' := by
  obtain ⟨h1, h2, G, gr, cap, hL, hG⟩ := hS
  obtain ⟨o1, o2, o3, o4, o5, o6⟩ := hO
  exact (remove_any hL h id h0.1 h0.2 o1 (by omega) o3 (by omega) (fun l hl => by have := o5 l hl; omega)).mono fun e w' ⟨a, b, c⟩ => ⟨a, St.step h1 h2 hG b c⟩
theorem st_chain (hS : St X w0 g least cnt L W) (hO : Ok cnt L) (h : Int) (h0 : 0 ≤ h ∧ h ≤ 4294967295) :
    Calls Try.prog 15 #[.pointer (some ⟨g, 0, none⟩), .int .u32 h] W (RowPost W (fil h (L.getD (bk h L.length) []))) := by
  obtain ⟨h1, h2, G, gr, cap, hL, hG⟩ := hS
  obtain ⟨o1, o2, o3, o4, o5, o6⟩ := hO
  exact chain_any hL h h0.1 h0.2 o1 (by omega) (fun l hl => by have := o5 l hl; omega)
theorem st_at (hS : St X w0 g least cnt L W) (hO : Ok cnt L) (n : Nat) (l : List It) (hl : L[n]? = some l) : Calls Try.prog 13 #[.pointer (some ⟨g, 0, none⟩), .int .i64 (n : Int)] W (AtPost W l) := by
  obtain ⟨h1, h2, G, gr, cap, hL, hG⟩ := hS
  obtain ⟨o1, o2, o3, o4, o5, o6⟩ := hO
  exact at_yes hL n l hl (by have := o5 l (List.mem_of_getElem? hl); omega) (by omega)
theorem st_at_no (hS : St X w0 g least cnt L W) (n : Int) (hn : n < 0 ∨ (L.length : Int) ≤ n) : Calls Try.prog 13 #[.pointer (some ⟨g, 0, none⟩), .int .i64 n] W fun e w' => e = .returned (.tuple #[.slice none 0 0, .int .i64 2]) ∧ W = w' := by
  obtain ⟨h1, h2, G, gr, cap, hL, hG⟩ := hS
  exact at_no hL n hn
theorem st_len (hS : St X w0 g least cnt L W) : Calls Try.prog 16 #[.pointer (some ⟨g, 0, none⟩)] W fun e w' => e = .returned (.int .i64 cnt) ∧ W = w' := by
  obtain ⟨h1, h2, G, gr, cap, hL, hG⟩ := hS
  exact len_any hL
theorem st_count (hS : St X w0 g least cnt L W) : Calls Try.prog 17 #[.pointer (some ⟨g, 0, none⟩)] W fun e w' => e = .returned (.int .i64 (L.length : Int)) ∧ W = w' := by
  obtain ⟨h1, h2, G, gr, cap, hL, hG⟩ := hS
  exact count_any hL
theorem st_wants (hS : St X w0 g least cnt L W) (hO : Ok cnt L) : Calls Try.prog 18 #[.pointer (some ⟨g, 0, none⟩)] W fun e w' => e = .returned (.int .i64 (wantsI least cnt L.length)) ∧ ∃ d, w' = W.drewN d := by
  obtain ⟨h1, h2, G, gr, cap, hL, hG⟩ := hS
  obtain ⟨o1, o2, o3, o4, o5, o6⟩ := hO
  exact wants_any hL (by omega) o3 (by omega)
theorem st_split (hS : St X w0 g least cnt L W) (hO : Ok cnt L) : Calls Try.prog 19 #[.pointer (some ⟨g, 0, none⟩)] W fun e w' => e = .returned (.int .i64 0) ∧ St X w0 g least cnt (splitL L) w' := by
  obtain ⟨h1, h2, G, gr, cap, hL, hG⟩ := hS
  obtain ⟨o1, o2, o3, o4, o5, o6⟩ := hO
  exact (split_any hL o1 o2 (fun l hl => by have := o5 l hl; omega) o6).mono fun e w' ⟨a, ⟨gr', cap', b⟩, c⟩ => ⟨a, St.step h1 h2 hG b c⟩
/-- Rows stay short while items are put. -/
theorem addL_le {L : List (List It)} {n M : Nat} {x : It} (h : ∀ l ∈ L, l.length ≤ M) : ∀ l ∈ addL L n x, l.length ≤ M + 1 := by
  intro l hl
  unfold addL at hl
  rcases List.mem_or_eq_of_mem_set hl with h1 | h1
  · have := h l h1; omega
  · subst h1
    simp only [List.length_append, List.length_cons, List.length_nil]
    rw [List.getD_eq_getElem?_getD]
    rcases hh : L[n]? with _ | l'
    · simp
    · have := h l' (List.mem_of_getElem? hh)
      simp; omega
theorem putAll_le {M : Nat} : ∀ (l : List It) (L : List (List It)), (∀ l ∈ L, l.length ≤ M) → ∀ r ∈ putAll L l, r.length ≤ M + l.length := by
  intro l
  induction l generalizing M with
  | nil => intro L h; exact h
  | cons x l ih =>
    intro L h r hr
    have := ih (M := M + 1) _ (addL_le (n := bk x.1 L.length) (x := x) h) r hr
    simp; omega
theorem st_join (hS : St X w0 g least cnt L W) (hO : Ok cnt L) (l1 : 1 ≤ least) (l2 : least < L.length) : Calls Try.prog 20 #[.pointer (some ⟨g, 0, none⟩)] W fun e w' => e = .returned (.int .i64 0) ∧ St X w0 g least cnt (joinL L) w' := by
  obtain ⟨h1, h2, G, gr, cap, hL, hG⟩ := hS
  obtain ⟨o1, o2, o3, o4, o5, o6⟩ := hO
  refine (join_any hL l1 l2 o2 (fun k l hl => ?_) (fun l hl => by have := o5 l hl; omega) o6).mono fun e w' ⟨a, ⟨gr', cap', b⟩, c⟩ => ⟨a, St.step h1 h2 hG b c⟩
  have h5 := putAll_le (M := 65536) _ _ (fun l hl => o5 l (List.mem_of_mem_take hl)) l hl
  have h6 : ((L.getD (L.length - 1) []).take k).length ≤ 65536 := by
    rw [List.length_take, List.getD_eq_getElem?_getD]
    rcases hh : L[L.length - 1]? with _ | l'
    · simp
    · have := o5 l' (List.mem_of_getElem? hh)
      simp; omega
  omega
end
set_option maxRecDepth 100000 in
set_option maxHeartbeats 4000000 in
/-- Join where there are no more than the least. -/
theorem join_no {w : World} {G : Nat → Prop} {g least gr cap : Nat} {cnt : Int} {L : List (List It)} (hB : LB w G g least cnt gr cap L) (m1 : L.length ≤ least) :
    Calls Try.prog 20 #[.pointer (some ⟨g, 0, none⟩)] w fun e w' => e = .returned (.int .i64 9) ∧ ∃ d, w' = w.drewN d := by
  obtain ⟨q0, q1, q2, f0, f1, f2, g1, g2, n1, n2, hne⟩ := hB.cells
  obtain ⟨m, hm⟩ : ∃ m, L.length = m := ⟨_, rfl⟩
  rw [hm] at q2 m1
  have HN := Lib.hid (none_no g gr m cap w q2)
  have t1 : decide (m ≤ least) = true := decide_eq_true m1
  clear hB hm n1 n2 m1
  go_enter Try.func20, Try.ntmps20
  go_wp2_with (first
    | (go_at_call 37; refine HN.out.mono ?_; rintro e w' ⟨rfl, rfl⟩)
    | fail)
  go_quiet (fail)
  go_wp2_with fail
  go_ret
  exact ⟨rfl, _, rfl⟩
theorem st_join_no {X : Nat → Prop} {w0 W : World} {g least : Nat} {cnt : Int} {L : List (List It)} (hS : St X w0 g least cnt L W) (l2 : L.length ≤ least) : Calls Try.prog 20 #[.pointer (some ⟨g, 0, none⟩)] W fun e w' => e = .returned (.int .i64 9) ∧ ∃ d, w' = W.drewN d := by
  obtain ⟨h1, h2, G, gr, cap, hL, hG⟩ := hS
  exact join_no hL l2

/-! ### added, has -/
set_option maxRecDepth 100000 in
set_option maxHeartbeats 4000000 in
theorem added_yes {X : Nat → Prop} {w0 W : World} {g least : Nat} {cnt : Int} {L : List (List It)} (hS : St X w0 g least cnt L W) (hO : Ok cnt L) (h id want : Int) (h0 : 0 ≤ h ∧ h ≤ 4294967295) (hid : (Lit.int .i64 id).wf = true) (hw : (bk h L.length : Int) = want) :
    Calls Try.prog 22 #[.pointer (some ⟨g, 0, none⟩), .int .u32 h, .int .i64 id, .int .i64 want] W fun e w' => e = .returned (.bool true) ∧ St X w0 g least (cnt + 1) (addL L (bk h L.length) (h, id)) w' := by
  have HA := Lib.hid (st_add hS hO h id h0 hid)
  obtain ⟨b, hb⟩ : ∃ b, bk h L.length = b := ⟨_, rfl⟩
  rw [hb] at HA hw ⊢
  subst hw
  clear hS hO h0 hid hb
  go_enter Try.func22, Try.ntmps22
  go_wp2_with (first | (go_at_call 12; refine HA.out.mono ?_; rintro e w' ⟨rfl, hS1⟩; have HS1 := Lib.hid hS1; clear hS1) | fail)
  go_ret
  exact ⟨rfl, HS1.out⟩
theorem own_rdI {w : World} {base n : Nat} {v : Value} {l : List It} (h : w.ownsRow base 54 2 v n (itL l)) : ∃ A c, v = .slice A n c ∧ RdI w w.heap.size A l := by
  obtain ⟨A, c, rfl, _⟩ := ownsRow_form h
  exact ⟨A, c, rfl, RdI.of_own h⟩
set_option maxRecDepth 100000 in
set_option maxHeartbeats 4000000 in
theorem has_yes {X : Nat → Prop} {w0 W : World} {g least : Nat} {cnt : Int} {L : List (List It)} (hS : St X w0 g least cnt L W) (hO : Ok cnt L) (n : Nat) (l : List It) (hl : L[n]? = some l) (A : Option Addr) (c : Nat) (hr : RdI W W.heap.size A l) :
    Calls Try.prog 23 #[.pointer (some ⟨g, 0, none⟩), .int .i64 (n : Int), .slice A l.length c] W fun e w' => e = .returned (.bool true) ∧ Below W.heap.size W w' := by
  have HA := Lib.hid (st_at hS hO n l hl)
  have HR := Lib.hid hr
  have hlen : l.length ≤ 1099511627776 := by have := hO.2.2.2.2.1 l (List.mem_of_getElem? hl); omega
  clear hS hO hl hr
  go_enter Try.func23, Try.ntmps23
  go_wp2_with fail
  refine HA.out.mono ?_
  rintro e w' ⟨v, rfl, hR, hb⟩
  obtain ⟨A1, c1, rfl, hrd⟩ := own_rdI hR
  have HR1 := Lib.hid hrd
  have HR2 := Lib.hid (HR.out.below hb)
  have HB := Lib.hid hb
  clear hR hrd hb
  go_wp2_with fail
  refine (sameItems_yes _ _ _ _ _ _ l _ HR1.out HR2.out hlen).mono ?_
  rintro e w2 ⟨rfl, d, rfl⟩
  go_wp2_with fail
  go_ret
  exact ⟨rfl, bdN HB.out⟩

/-! ### two, awake -/
def L2 : List (List It) := [[(0, 5), (2, 6)], [(1, 7)]]
set_option maxRecDepth 100000 in
set_option maxHeartbeats 8000000 in
theorem two_any (w : World) : Calls Try.prog 21 #[] w fun e w' => ∃ g, e = .returned (.tuple #[.pointer (some ⟨g, 0, none⟩), .bool true]) ∧ St (· < w.heap.size) w g 2 3 L2 w' := by
  have HNew := Lib.hid (new_yes 2 (by decide) (by decide) w)
  go_enter Try.func21, Try.ntmps21
  go_wp2_with fail
  refine HNew.out.mono ?_
  rintro e w1 ⟨g, rfl, ⟨gr, cap, hL⟩, hb⟩
  have HS1 := Lib.hid (St.new hL hb)
  clear hL hb
  go_wp2_with fail
  have e0 : addL (List.replicate 2 ([] : List It)) (bk 0 (List.replicate 2 ([] : List It)).length) (0, 5) = [[(0, 5)], []] := by kernel_rfl
  have H1 := added_yes HS1.out ⟨by decide, by decide, by decide, by decide, by decide, by decide⟩ 0 5 0 (by decide) (by decide) (by kernel_rfl)
  rw [e0] at H1
  refine H1.mono ?_
  rintro e w2 ⟨rfl, hS2⟩
  clear H1
  have HS2 := Lib.hid hS2
  clear hS2
  go_wp2_with fail
  have e0 : addL ([[(0, 5)], []] : List (List It)) (bk 2 ([[(0, 5)], []] : List (List It)).length) (2, 6) = [[(0, 5), (2, 6)], []] := by kernel_rfl
  have H1 := added_yes HS2.out ⟨by decide, by decide, by decide, by decide, by decide, by decide⟩ 2 6 0 (by decide) (by decide) (by kernel_rfl)
  rw [e0] at H1
  refine H1.mono ?_
  rintro e w3 ⟨rfl, hS3⟩
  clear H1
  have HS3 := Lib.hid hS3
  clear hS3
  go_wp2_with fail
  have e0 : addL ([[(0, 5), (2, 6)], []] : List (List It)) (bk 1 ([[(0, 5), (2, 6)], []] : List (List It)).length) (1, 7) = L2 := by kernel_rfl
  have H1 := added_yes HS3.out ⟨by decide, by decide, by decide, by decide, by decide, by decide⟩ 1 7 1 (by decide) (by decide) (by kernel_rfl)
  rw [e0] at H1
  refine H1.mono ?_
  rintro e w4 ⟨rfl, hS4⟩
  clear H1
  have HS4 := Lib.hid hS4
  clear hS4
  go_wp2_with fail
  go_ret2
  exact ⟨g, rfl, HS4.out⟩
theorem Ok2 : Ok 3 L2 := ⟨by decide, by decide, by decide, by decide, by decide, by decide⟩
theorem rdI_alloc (w : World) (l : List It) : RdI (w.alloc (.cells (itL l).toArray 54)) (w.heap.size + 1) (some ⟨w.heap.size, 0, none⟩) l := by
  intro k z hz
  obtain ⟨a0, a1⟩ := itL_at hz
  have hb := Blk.new w 54 (itL l).toArray
  exact ⟨_, rfl, by omega, by rw [hb.cell]; simpa using a0, by rw [hb.cell]; simpa using a1⟩
theorem rdI_new (w : World) (x y : Int) : RdI (w.alloc (.cells #[.int .u32 x, .int .i64 y] 54)) (w.heap.size + 1) (some ⟨w.heap.size, 0, none⟩) [(x, y)] := by
  intro k z hz
  rcases k with _ | k
  · simp at hz
    subst hz
    have hb := Blk.new w 54 #[.int .u32 x, .int .i64 y]
    exact ⟨_, rfl, by omega, by rw [hb.cell]; rfl, by rw [hb.cell]; rfl⟩
  · simp at hz
set_option maxRecDepth 100000 in
set_option maxHeartbeats 8000000 in
theorem awake_any (w : World) : Calls Try.prog 9 #[] w fun e w' => e = .returned (.bool true) ∧ Below w.heap.size w w' := by
  go_enter Try.func9, Try.ntmps9
  go_wp2_with fail
  refine (two_any w).mono ?_
  rintro e w1 ⟨g, rfl, hS⟩
  have HS := Lib.hid hS
  clear hS
  go_wp2_with fail
  have hf : fil 2 (L2.getD (bk 2 L2.length) []) = [(2, 6)] := by kernel_rfl
  have H1 := st_chain HS.out Ok2 2 (by decide)
  rw [hf] at H1
  refine H1.mono ?_
  rintro e w2 ⟨v, rfl, hR, hb⟩
  clear H1
  obtain ⟨A, c, rfl, hrd⟩ := own_rdI hR
  have HR1 := Lib.hid (hrd.below ((Below.refl w2.heap.size w2).alloc (Nat.le_refl _) (.cells #[.int .u32 2, .int .i64 6] 54)))
  have HR2 := Lib.hid (rdI_new w2 2 6)
  have HS2 := Lib.hid ((HS.out.later hb).later ((Below.refl w2.heap.size w2).alloc (Nat.le_refl _) (.cells #[.int .u32 2, .int .i64 6] 54)))
  clear hR hrd hb
  go_wp2_with fail
  refine (sameItems_yes A (some ⟨w2.heap.size, 0, none⟩) c 1 _ _ [(2, 6)] _ HR1.out HR2.out (by decide)).mono ?_
  rintro e w3 ⟨rfl, d, rfl⟩
  have HS3 := Lib.hid (HS2.out.drewN d)
  go_wp2_with (first
    | (go_at_call 16; refine (st_len HS3.out).mono ?_; rintro e w' ⟨rfl, rfl⟩)
    | (go_at_call 17; refine (st_count HS3.out).mono ?_; rintro e w' ⟨rfl, rfl⟩)
    | fail)
  go_ret
  exact ⟨ret1_b (by kernel_rfl), HS3.out.below (Nat.le_refl _)⟩
end Go.Proofs.Ytjipncpplpfobaa.Lb
