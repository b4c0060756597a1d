/- Both buckets, apart from each other; their calls by contracts over them. -/
import Derived.Test.YtjipncpplpfobaaRbPlain
import Derived.Test.YtjipncpplpfobaaOpenTrips
namespace Go.Proofs.Ytjipncpplpfobaa.Lb
open Go.RowKit K Hs
set_option linter.unusedVariables false
set_option linter.unusedSimpArgs false

theorem quiet_more {P : Program} {f : Nat} {args : Array Value} {w : World} {n : Nat} {v : Value} (h : Calls P f args (w.drewN n) fun e w' => e = .returned v ∧ ∃ k, w' = (w.drewN n).drewN k) :
    Calls P f args (w.drewN n) fun e w'' => e = .returned v ∧ ∃ m, w'' = w.drewN m := h.mono fun _ _ ⟨he, k, hm⟩ => ⟨he, n + k, by rw [hm]; simp⟩
/-- The program's buckets and the document's; blocks in X are others', and lie as in w0. -/
def DX (X : Nat → Prop) (w0 : World) (g least : Nat) (cnt : Int) (h : Nat) (La Lb : List (List It)) (W : World) : Prop :=
  Keep (fun k => ¬ X k) w0 W ∧ (∀ k, X k → k < w0.heap.size) ∧ ∃ G gr cap Gr gr' cap', LB W G g least cnt gr cap La ∧ RB W Gr h least gr' cap' Lb ∧ (∀ k, G k → ¬ X k) ∧ (∀ k, Gr k → ¬ X k) ∧ (∀ k, G k → ¬ Gr k)
section
variable {X : Nat → Prop} {w0 W W1 : World} {g least h gr cap gr' cap' gr1 cap1 : Nat} {cnt cnt' : Int} {La La' Lb Lb' L : List (List It)} {G Gr : Nat → Prop}
theorem DX.left (hb : Keep (fun k => ¬ X k) w0 W) (hX : ∀ k, X k → k < w0.heap.size) (hR : RB W Gr h least gr' cap' Lb) (hG : ∀ k, G k → ¬ X k) (hGr : ∀ k, Gr k → ¬ X k) (hd : ∀ k, G k → ¬ Gr k)
    (hL : LB W1 (upG G W W1) g least cnt' gr1 cap1 La') (hk : Keep G W W1) : DX X w0 g least cnt' h La' Lb W1 :=
  ⟨hb.trans hk (fun i _ hi => hG i hi), hX, _, _, _, _, _, _, hL, hR.keep hk (fun r hr hg => hd r hg hr), fun k hk2 hx => by
    rcases hk2 with h | h
    · exact hG k h hx
    · have := hX k hx; have := hb.size; omega, hGr, fun k hk2 hx => by
    rcases hk2 with h | h
    · exact hd k h hx
    · have := hR.1 k hx; omega⟩
theorem DX.right (hb : Keep (fun k => ¬ X k) w0 W) (hX : ∀ k, X k → k < w0.heap.size) (hL : LB W G g least cnt gr cap La) (hG : ∀ k, G k → ¬ X k) (hGr : ∀ k, Gr k → ¬ X k) (hd : ∀ k, G k → ¬ Gr k)
    (hR : RB W1 (upG Gr W W1) h least gr1 cap1 Lb') (hk : Keep Gr W W1) : DX X w0 g least cnt h La Lb' W1 :=
  ⟨hb.trans hk (fun i _ hi => hGr i hi), hX, _, _, _, _, _, _, hL.keep hk (fun r hr hg => hd r hr hg), hR, hG, fun k hk2 hx => by
    rcases hk2 with h | h
    · exact hGr k h hx
    · have := hX k hx; have := hb.size; omega, fun k hk2 hx => by
    rcases hx with h | h
    · exact hd k hk2 h
    · have := hL.1 k hk2; omega⟩
theorem DX.later (hD : DX X w0 g least cnt h La Lb W) (hb : Below W.heap.size W W1) : DX X w0 g least cnt h La Lb W1 := by
  obtain ⟨h1, h2, G, gr, cap, Gr, gr', cap', hL, hR, hG, hGr, hd⟩ := hD
  exact ⟨h1.trans (Keep.new (F := fun _ => False) hb) (fun _ _ h => h.elim), h2, G, gr, cap, Gr, gr', cap', hL.keep (F := fun _ => False) (Keep.new hb) (fun _ _ h => h), hR.keep (F := fun _ => False) (Keep.new hb) (fun _ _ h => h), hG, hGr, hd⟩
theorem DX.drewN (hD : DX X w0 g least cnt h La Lb W) (d : Nat) : DX X w0 g least cnt h La Lb (W.drewN d) := hD.later ⟨rfl, rfl, rfl, Nat.le_refl _, fun _ _ => rfl⟩
theorem DX.drew (hD : DX X w0 g least cnt h La Lb W) : DX X w0 g least cnt h La Lb W.drew := hD.later ⟨rfl, rfl, rfl, Nat.le_refl _, fun _ _ => rfl⟩
theorem DX.below {B0 : Nat} (hD : DX (· < B0) w0 g least cnt h La Lb W) (hB : B0 ≤ w0.heap.size) : Below B0 w0 W := hD.1.to_below hB (fun i _ hi => by omega)
theorem DX.cell (hD : DX X w0 g least cnt h La Lb W) {p : Addr} (hp : X p.block) : W.cell? p = w0.cell? p := hD.1.cell (hD.2.1 _ hp) (fun hn => hn hp)
/-- A box of our own is told of now. -/
theorem DX.base (hD : DX X w0 g least cnt h La Lb W) (hb : Below W.heap.size W W1) (hz : W.heap.size < W1.heap.size) : DX (fun k => k = W.heap.size ∨ X k) W1 g least cnt h La Lb W1 := by
  obtain ⟨h1, h2, G, gr, cap, Gr, gr', cap', hL, hR, hG, hGr, hd⟩ := hD
  refine ⟨Keep.refl _ _, fun k hk => ?_, G, gr, cap, Gr, gr', cap', hL.keep (F := fun _ => False) (Keep.new hb) (fun _ _ h => h), hR.keep (F := fun _ => False) (Keep.new hb) (fun _ _ h => h), fun k hk hx => ?_, fun k hk hx => ?_, hd⟩
  · rcases hk with h | h
    · omega
    · have := h2 k h; have := h1.size; omega
  · rcases hx with h | h
    · have := hL.1 k hk; omega
    · exact hG k hk h
  · rcases hx with h | h
    · have := hR.1 k hk; omega
    · exact hGr k hk h
theorem DX.unbase {W2 : World} {cnt2 : Int} {L2 L3 : List (List It)} (hD : DX X w0 g least cnt h La Lb W) (hb : Below W.heap.size W W1) (h2 : DX (fun k => k = W.heap.size ∨ X k) W1 g least cnt2 h L2 L3 W2) : DX X w0 g least cnt2 h L2 L3 W2 := by
  obtain ⟨a1, a2, _⟩ := hD
  obtain ⟨b1, b2, G, gr, cap, Gr, gr', cap', hL, hR, hG, hGr, hd⟩ := h2
  refine ⟨(a1.trans (Keep.new (F := fun _ => False) hb) (fun _ _ h => h.elim)).trans b1 (fun k _ hk hx => hk (.inr hx)), a2, G, gr, cap, Gr, gr', cap', hL, hR, fun k hk hx => hG k hk (.inr hx), fun k hk hx => hGr k hk (.inr hx), hd⟩
theorem d_add (hD : DX X w0 g least cnt h La Lb W) (hO : Ok cnt La) (n id : Int) (h0 : 0 ≤ n ∧ n ≤ 4294967295) (hid : (Lit.int .i64 id).wf = true) :
    Calls Try.prog 12 #[.pointer (some ⟨g, 0, none⟩), .int .u32 n, .int .i64 id] W fun e w' => e = .returned (.tuple #[.int .i64 (bk n La.length : Int), .int .i64 0]) ∧ DX X w0 g least (cnt + 1) h (addL La (bk n La.length) (n, id)) Lb w' := by
  obtain ⟨h1, h2, G, gr, cap, Gr, gr', cap', hL, hR, hG, hGr, hd⟩ := hD
  obtain ⟨o1, o2, o3, o4, o5, o6⟩ := hO
  exact (add_any hL n id h0.1 h0.2 hid o1 (by omega) o3 (by omega) (fun l hl => by have := o5 l hl; omega)).mono fun e w' ⟨a, b, c⟩ => ⟨a, DX.left h1 h2 hR hG hGr hd b c⟩
theorem e_add (hD : DX X w0 g least cnt h La Lb W) (hO : Ok (tot Lb : Int) Lb) (n id : Int) (h0 : 0 ≤ n ∧ n ≤ 4294967295) :
    Calls Try.prog 28 #[.pointer (some ⟨h, 0, none⟩), .int .u32 n, .int .i64 id] W fun e w' => e = .returned (.tuple #[.int .i64 (bk n Lb.length : Int), .int .i64 0]) ∧ DX X w0 g least cnt h La (addL Lb (bk n Lb.length) (n, id)) w' := by
  obtain ⟨h1, h2, G, gr, cap, Gr, gr', cap', hL, hR, hG, hGr, hd⟩ := hD
  obtain ⟨o1, o2, o3, o4, o5, o6⟩ := hO
  exact (radd_any hR n id h0.1 h0.2 o1 o2 (by omega)).mono fun e w' ⟨a, b, c⟩ => ⟨a, DX.right h1 h2 hL hG hGr hd b c⟩
theorem d_rem (hD : DX X w0 g least cnt h La Lb W) (hO : Ok cnt La) (n id : Int) (h0 : 0 ≤ n ∧ n ≤ 4294967295) :
    Calls Try.prog 14 #[.pointer (some ⟨g, 0, none⟩), .int .u32 n, .int .i64 id] W fun e w' => e = .returned (.bool (hasI (La.getD (bk n La.length) []) (n, id))) ∧ DX X w0 g least (if hasI (La.getD (bk n La.length) []) (n, id) then cnt - 1 else cnt) h (remL La (bk n La.length) (n, id)) Lb w' := by
  obtain ⟨h1, h2, G, gr, cap, Gr, gr', cap', hL, hR, hG, hGr, hd⟩ := hD
  obtain ⟨o1, o2, o3, o4, o5, o6⟩ := hO
  exact (remove_any hL n id h0.1 h0.2 o1 (by omega) o3 (by omega) (fun l hl => by have := o5 l hl; omega)).mono fun e w' ⟨a, b, c⟩ => ⟨a, DX.left h1 h2 hR hG hGr hd b c⟩
theorem e_rem (hD : DX X w0 g least cnt h La Lb W) (hO : Ok (tot Lb : Int) Lb) (n id : Int) (h0 : 0 ≤ n ∧ n ≤ 4294967295) :
    Calls Try.prog 29 #[.pointer (some ⟨h, 0, none⟩), .int .u32 n, .int .i64 id] W fun e w' => e = .returned (.bool (hasI (Lb.getD (bk n Lb.length) []) (n, id))) ∧ DX X w0 g least cnt h La (remL Lb (bk n Lb.length) (n, id)) w' := by
  obtain ⟨h1, h2, G, gr, cap, Gr, gr', cap', hL, hR, hG, hGr, hd⟩ := hD
  obtain ⟨o1, o2, o3, o4, o5, o6⟩ := hO
  exact (rrem_any hR n id h0.1 h0.2 o1 o2 o5).mono fun e w' ⟨a, b, c⟩ => ⟨a, DX.right h1 h2 hL hG hGr hd b c⟩
theorem d_chain (hD : DX X w0 g least cnt h La Lb W) (hO : Ok cnt La) (n : Int) (h0 : 0 ≤ n ∧ n ≤ 4294967295) :
    Calls Try.prog 15 #[.pointer (some ⟨g, 0, none⟩), .int .u32 n] W (RowPost W (fil n (La.getD (bk n La.length) []))) := by
  obtain ⟨h1, h2, G, gr, cap, Gr, gr', cap', hL, hR, hG, hGr, hd⟩ := hD
  obtain ⟨o1, o2, o3, o4, o5, o6⟩ := hO
  exact chain_any hL n h0.1 h0.2 o1 (by omega) (fun l hl => by have := o5 l hl; omega)
theorem e_chain (hD : DX X w0 g least cnt h La Lb W) (hO : Ok (tot Lb : Int) Lb) (n : Int) (h0 : 0 ≤ n ∧ n ≤ 4294967295) :
    Calls Try.prog 30 #[.pointer (some ⟨h, 0, none⟩), .int .u32 n] W (RowPost W (fil n (Lb.getD (bk n Lb.length) []))) := by
  obtain ⟨h1, h2, G, gr, cap, Gr, gr', cap', hL, hR, hG, hGr, hd⟩ := hD
  obtain ⟨o1, o2, o3, o4, o5, o6⟩ := hO
  exact rchain_any hR n h0.1 h0.2 o1 o2 o5
theorem d_at (hD : DX X w0 g least cnt h La Lb W) (hO : Ok cnt La) (n : Nat) (l : List It) (hl : La[n]? = some l) : Calls Try.prog 13 #[.pointer (some ⟨g, 0, none⟩), .int .i64 (n : Int)] W (AtPost W l) := by
  obtain ⟨h1, h2, G, gr, cap, Gr, gr', cap', hL, hR, hG, hGr, hd⟩ := hD
  obtain ⟨o1, o2, o3, o4, o5, o6⟩ := hO
  exact at_yes hL n l hl (by have := o5 l (List.mem_of_getElem? hl); omega) (by omega)
theorem d_at_no (hD : DX X w0 g least cnt h La Lb W) (n : Int) (hn : n < 0 ∨ (La.length : Int) ≤ n) : Calls Try.prog 13 #[.pointer (some ⟨g, 0, none⟩), .int .i64 n] W fun e w' => e = .returned (.tuple #[.slice none 0 0, .int .i64 2]) ∧ W = w' := by
  obtain ⟨h1, h2, G, gr, cap, Gr, gr', cap', hL, hR, hG, hGr, hd⟩ := hD
  exact at_no hL n hn
theorem e_at (hD : DX X w0 g least cnt h La Lb W) (n : Nat) (l : List It) (hl : Lb[n]? = some l) :
    Calls Try.prog 32 #[.pointer (some ⟨h, 0, none⟩), .int .i64 (n : Int)] W fun e w' => ∃ A c, e = .returned (.tuple #[.slice A l.length c, .int .i64 0]) ∧ RdI W W.heap.size A l ∧ W = w' := by
  obtain ⟨h1, h2, G, gr, cap, Gr, gr', cap', hL, hR, hG, hGr, hd⟩ := hD
  exact (rat_yes hR n l hl).mono fun e w' ⟨A, c, a, b, d⟩ => ⟨A, c, a, RdI.of_own b, d⟩
theorem e_at_no (hD : DX X w0 g least cnt h La Lb W) (n : Int) (hn : n < 0 ∨ (Lb.length : Int) ≤ n) : Calls Try.prog 32 #[.pointer (some ⟨h, 0, none⟩), .int .i64 n] W fun e w' => e = .returned (.tuple #[.slice none 0 0, .int .i64 2]) ∧ W = w' := by
  obtain ⟨h1, h2, G, gr, cap, Gr, gr', cap', hL, hR, hG, hGr, hd⟩ := hD
  exact rat_no hR n hn
theorem e_cells (hD : DX X w0 g least cnt h La Lb W) : ∃ gr' cap', W.cell? ⟨h, 1, none⟩ = some (.slice (some ⟨gr', 0, none⟩) Lb.length cap') ∧ ∀ (n : Nat) (l : List It), Lb[n]? = some l → ∃ A c, W.cell? ⟨gr', n, none⟩ = some (.slice A l.length c) ∧ RdI W W.heap.size A l := by
  obtain ⟨h1, h2, G, gr, cap, Gr, gr', cap', hL, hR, hG, hGr, hd⟩ := hD
  refine ⟨gr', cap', hR.cells.2.1, fun n l hl => ?_⟩
  obtain ⟨A, c, a, _, b, _⟩ := hR.2.2.2.spot hl
  exact ⟨A, c, a, RdI.of_own b⟩
theorem d_len (hD : DX X w0 g least cnt h La Lb W) : Calls Try.prog 16 #[.pointer (some ⟨g, 0, none⟩)] W fun e w' => e = .returned (.int .i64 cnt) ∧ W = w' := by
  obtain ⟨h1, h2, G, gr, cap, Gr, gr', cap', hL, hR, hG, hGr, hd⟩ := hD
  exact len_any hL
theorem e_len (hD : DX X w0 g least cnt h La Lb W) (hO : Ok (tot Lb : Int) Lb) : Calls Try.prog 35 #[.pointer (some ⟨h, 0, none⟩)] W fun e w' => e = .returned (.int .i64 (tot Lb : Int)) ∧ W = w' := by
  obtain ⟨h1, h2, G, gr, cap, Gr, gr', cap', hL, hR, hG, hGr, hd⟩ := hD
  obtain ⟨o1, o2, o3, o4, o5, o6⟩ := hO
  exact rlen_any hR o2 (by omega)
theorem d_count (hD : DX X w0 g least cnt h La Lb W) : Calls Try.prog 17 #[.pointer (some ⟨g, 0, none⟩)] W fun e w' => e = .returned (.int .i64 (La.length : Int)) ∧ W = w' := by
  obtain ⟨h1, h2, G, gr, cap, Gr, gr', cap', hL, hR, hG, hGr, hd⟩ := hD
  exact count_any hL
theorem d_wants (hD : DX X w0 g least cnt h La Lb W) (hO : Ok cnt La) : Calls Try.prog 18 #[.pointer (some ⟨g, 0, none⟩)] W fun e w' => e = .returned (.int .i64 (wantsI least cnt La.length)) ∧ ∃ d, w' = W.drewN d := by
  obtain ⟨h1, h2, G, gr, cap, Gr, gr', cap', hL, hR, hG, hGr, hd⟩ := hD
  obtain ⟨o1, o2, o3, o4, o5, o6⟩ := hO
  exact wants_any hL (by omega) o3 (by omega)
theorem e_wants (hD : DX X w0 g least cnt h La Lb W) (hO : Ok (tot Lb : Int) Lb) : Calls Try.prog 36 #[.pointer (some ⟨h, 0, none⟩)] W fun e w' => e = .returned (.int .i64 (wantsI least (tot Lb : Int) Lb.length)) ∧ ∃ d, w' = W.drewN d := by
  obtain ⟨h1, h2, G, gr, cap, Gr, gr', cap', hL, hR, hG, hGr, hd⟩ := hD
  obtain ⟨o1, o2, o3, o4, o5, o6⟩ := hO
  exact rwants_any hR o2 (by omega)
theorem d_split (hD : DX X w0 g least cnt h La Lb W) (hO : Ok cnt La) : Calls Try.prog 19 #[.pointer (some ⟨g, 0, none⟩)] W fun e w' => e = .returned (.int .i64 0) ∧ DX X w0 g least cnt h (splitL La) Lb w' := by
  obtain ⟨h1, h2, G, gr, cap, Gr, gr', cap', hL, hR, hG, hGr, hd⟩ := hD
  obtain ⟨o1, o2, o3, o4, o5, o6⟩ := hO
  exact (split_any hL o1 o2 (fun l hl => by have := o5 l hl; omega) o6).mono fun e w' ⟨a, ⟨gr', cap', b⟩, c⟩ => ⟨a, DX.left h1 h2 hR hG hGr hd b c⟩
theorem e_split (hD : DX X w0 g least cnt h La Lb W) (hO : Ok (tot Lb : Int) Lb) (hI : InB Lb) (hm : Lb.length ≤ 65535) : Calls Try.prog 33 #[.pointer (some ⟨h, 0, none⟩)] W fun e w' => e = .returned (.int .i64 0) ∧ DX X w0 g least cnt h La (splitL Lb) w' := by
  obtain ⟨h1, h2, G, gr, cap, Gr, gr', cap', hL, hR, hG, hGr, hd⟩ := hD
  obtain ⟨o1, o2, o3, o4, o5, o6⟩ := hO
  have hr := rsplit_is hI o1 (by omega)
  refine (rsplit_any hR o1 hm o5 o6 (fun its hp l hl => ?_)).mono fun e w' ⟨a, ⟨gr', cap', b⟩, c⟩ => ⟨a, DX.right h1 h2 hL hG hGr hd (by rw [hr] at b; exact b) c⟩
  have h5 := putAll_le (M := 0) its _ (fun l hl => by have := (List.mem_replicate.1 hl).2; subst this; simp) l hl
  have h6 := hp.length_le
  have h8 : Lb.flatten.length = tot Lb := by unfold tot; rw [List.length_flatten]
  omega
theorem d_join (hD : DX X w0 g least cnt h La Lb W) (hO : Ok cnt La) (l1 : 1 ≤ least) (l2 : least < La.length) : Calls Try.prog 20 #[.pointer (some ⟨g, 0, none⟩)] W fun e w' => e = .returned (.int .i64 0) ∧ DX X w0 g least cnt h (joinL La) Lb w' := by
  obtain ⟨h1, h2, G, gr, cap, Gr, gr', cap', hL, hR, hG, hGr, hd⟩ := hD
  obtain ⟨o1, o2, o3, o4, o5, o6⟩ := hO
  refine (join_any hL l1 l2 o2 (fun k l hl => ?_) (fun l hl => by have := o5 l hl; omega) o6).mono fun e w' ⟨a, ⟨gr', cap', b⟩, c⟩ => ⟨a, DX.left h1 h2 hR hG hGr hd b c⟩
  have h5 := putAll_le (M := 65536) _ _ (fun l hl => o5 l (List.mem_of_mem_take hl)) l hl
  have h6 : ((La.getD (La.length - 1) []).take k).length ≤ 65536 := by
    rw [List.length_take, List.getD_eq_getElem?_getD]
    rcases hh : La[La.length - 1]? with _ | l'
    · simp
    · have := o5 l' (List.mem_of_getElem? hh)
      simp; omega
  omega
theorem e_join (hD : DX X w0 g least cnt h La Lb W) (hO : Ok (tot Lb : Int) Lb) (l1 : 1 ≤ least) (l2 : least < Lb.length) (ht : tot Lb ≤ 30000) : Calls Try.prog 34 #[.pointer (some ⟨h, 0, none⟩)] W fun e w' => e = .returned (.int .i64 0) ∧ DX X w0 g least cnt h La (joinL Lb) w' := by
  obtain ⟨h1, h2, G, gr, cap, Gr, gr', cap', hL, hR, hG, hGr, hd⟩ := hD
  obtain ⟨o1, o2, o3, o4, o5, o6⟩ := hO
  refine (rjoin_any hR l1 l2 o2 (fun k l hl => ?_) o5 o6).mono fun e w' ⟨a, ⟨gr', cap', b⟩, c⟩ => ⟨a, DX.right h1 h2 hL hG hGr hd b c⟩
  have h5 := putAll_le (M := 30000) _ _ (fun l hl => by have := tot_ge (List.mem_of_mem_take hl); omega) l hl
  have h6 : ((Lb.getD (Lb.length - 1) []).take k).length ≤ 30000 := by
    rw [List.length_take, List.getD_eq_getElem?_getD]
    rcases hh : Lb[Lb.length - 1]? with _ | l'
    · simp
    · have := tot_ge (List.mem_of_getElem? hh)
      simp; omega
  omega
theorem d_join_no (hD : DX X w0 g least cnt h La Lb W) (l2 : La.length ≤ least) : Calls Try.prog 20 #[.pointer (some ⟨g, 0, none⟩)] W fun e w' => e = .returned (.int .i64 9) ∧ ∃ d, w' = W.drewN d := by
  obtain ⟨h1, h2, G, gr, cap, Gr, gr', cap', hL, hR, hG, hGr, hd⟩ := hD
  exact join_no hL l2
set_option maxRecDepth 100000 in
set_option maxHeartbeats 4000000 in
theorem rjoin_no {w : World} {G : Nat → Prop} {g least gr cap : Nat} {L : List (List It)} (hB : RB w G g least gr cap L) (m1 : L.length ≤ least) :
    Calls Try.prog 34 #[.pointer (some ⟨g, 0, none⟩)] w fun e w' => e = .returned (.int .i64 9) ∧ ∃ d, w' = w.drewN d := by
  obtain ⟨q0, q1, f1, g1, g2, n1, n2, hne⟩ := hB.cells
  obtain ⟨m, hm⟩ : ∃ m, L.length = m := ⟨_, rfl⟩
  rw [hm] at q1 m1
  have t1 : decide (m ≤ least) = true := decide_eq_true m1
  clear hB hm n1 n2 m1
  go_enter Try.func34, Try.ntmps34
  go_wp2_with fail
  go_quiet (fail)
  go_wp2_with fail
  go_ret
  exact ⟨rfl, _, rfl⟩
theorem e_join_no (hD : DX X w0 g least cnt h La Lb W) (l2 : Lb.length ≤ least) : Calls Try.prog 34 #[.pointer (some ⟨h, 0, none⟩)] W fun e w' => e = .returned (.int .i64 9) ∧ ∃ d, w' = W.drewN d := by
  obtain ⟨h1, h2, G, gr, cap, Gr, gr', cap', hL, hR, hG, hGr, hd⟩ := hD
  exact rjoin_no hR l2
end
end Go.Proofs.Ytjipncpplpfobaa.Lb
