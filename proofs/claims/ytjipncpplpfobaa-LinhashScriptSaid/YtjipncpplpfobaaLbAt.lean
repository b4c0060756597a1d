/- slices.Clone at items, linhash's At, SameItems, OverItems, each by its contract. -/
import Derived.Test.YtjipncpplpfobaaLb
import Derived.WalkLawsBesides
import Derived.WalkSpells
namespace Go.Proofs.Ytjipncpplpfobaa.Lb
open Go.RowKit K Hs
set_option linter.unusedVariables false
set_option linter.unusedSimpArgs false

set_option maxRecDepth 100000 in
set_option maxHeartbeats 4000000 in
theorem clone_items (A : Option Addr) (c B : Nat) (l : List It) (w : World) (hr : Reads w B 2 A l.length (itL l)) (hB : B ≤ w.heap.size) (hn : l.length ≤ 1099511627776) (hA : A = none → c = 0) :
    Calls Try.prog 39 #[.slice A l.length c] w fun e w' => ∃ v, e = .returned v ∧ w'.ownsRow w.heap.size 54 2 v l.length (itL l) ∧ Below w.heap.size w w' := by
  obtain ⟨i0, hi, hz0, hz1, hz2⟩ := info_parts infoI
  have he := fun (w : World) => Lib.run_eql_slice_nil (P := Try.prog) w 43 54 A l.length c 0 0 Try.underlying43
  cases A with
  | none =>
    have hn0 : l.length = 0 := by
      rcases Nat.eq_zero_or_pos l.length with h | h
      · exact h
      · obtain ⟨ad, h', _⟩ := hr.2 h; cases h'
    have hx : l = [] := List.eq_nil_of_length_eq_zero hn0
    subst hx
    obtain rfl := hA rfl
    simp only [List.length_nil] at he hn0 ⊢
    clear hA hn0
    go_enter Try.func39, Try.ntmps39
    go_wp2
    go_ret
    exact ⟨_, rfl, World.ownsRow_nil _ _ _ _, Below.refl _ _⟩
  | some ad =>
    obtain ⟨n, hnl⟩ : ∃ n, l.length = n := ⟨_, rfl⟩
    obtain ⟨xs, hxs⟩ : ∃ xs, itL l = xs := ⟨_, rfl⟩
    have h1 : ∀ u ∈ xs, u.oneCell' = true := hxs ▸ itL_one l
    rw [hnl, hxs] at hr
    rw [hnl] at hn
    have HX := Lib.hid hxs
    have HNL := Lib.hid hnl
    rw [hnl, hxs]
    rw [hnl] at he
    clear hxs hnl hA
    go_enter Try.func39, Try.ntmps39
    go_wp2_with (first
      | (at_builtin; refine wpList_append_any _ rfl (.tmp 5) (.tmp 6) _ rfl w.heap.size 54 i0 _ 2 16 Try.underlying43 hi hz0 hz1 hz2 rfl (by omega) (.slice (some ⟨w.heap.size, 0, none⟩) 0 0) 0 [] rfl (World.ownsRow_lit w #[] 0 (Nat.le_refl _) (Nat.zero_le _) (by simp)) B (some ad) n c xs rfl (hr.alloc hB _) h1 (by unfold maxLen; omega) (by omega) (by simp) ?_
         intro v1 w1 hown1 hg1 hat1))
    go_ret
    refine ⟨v1, rfl, by simpa using hown1, ((Below.refl _ _).alloc (Nat.le_refl _) _).grown hg1 (by simp) (fun k hk => ?_)⟩
    simp [Value.ownBlock] at hk
    omega

/-! ### At -/
section
variable {w : World} {G : Nat → Prop} {g least gr cap : Nat} {cnt : Int} {L : List (List It)}
def AtPost (w : World) (l : List It) (e : Ending) (w' : World) : Prop := ∃ v, e = .returned (.tuple #[v, .int .i64 0]) ∧ w'.ownsRow w.heap.size 54 2 v l.length (itL l) ∧ Below w.heap.size w w'
set_option maxRecDepth 100000 in
set_option maxHeartbeats 4000000 in
theorem at_yes (h : LB w G g least cnt gr cap L) (n : Nat) (l : List It) (hl : L[n]? = some l) (hlen : l.length ≤ 1099511627776) (hm : L.length ≤ 1048576) :
    Calls Try.prog 13 #[.pointer (some ⟨g, 0, none⟩), .int .i64 (n : Int)] w (AtPost w l) := by
  obtain ⟨q0, q1, q2, f0, f1, f2, g1, g2, n1, n2, hne⟩ := h.cells
  obtain ⟨A, c, hcell, hfz, hown, hblk, hA⟩ := h.2.2.2.spot hl
  have hlt := (List.getElem?_eq_some_iff.1 hl).1
  obtain ⟨m, hm'⟩ : ∃ m, L.length = m := ⟨_, rfl⟩
  rw [hm'] at q2 hlt hm
  have HN := Lib.hid (none_no g gr m cap w q2)
  have HC := Lib.hid (clone_items A c w.heap.size l w (Reads.of_own hown) (Nat.le_refl _) hlen hA)
  have b0 : (0 : Int) ≤ (n : Int) := by omega
  have b1 : (n : Int) < (m : Int) := by omega
  clear h hown hblk hA hl hm' f0 f1 f2 n1 n2 hlt
  go_enter Try.func13, Try.ntmps13
  go_wp2_with (first
    | (go_at_call 37; refine HN.out.mono ?_; rintro e w' ⟨rfl, rfl⟩)
    | (go_at_call 39; refine HC.out.mono ?_; rintro e w' ⟨v, rfl, hR, hb⟩)
    | fail)
  go_ret2
  exact ⟨v, rfl, hR, hb⟩
set_option maxRecDepth 100000 in
set_option maxHeartbeats 4000000 in
theorem at_no (h : LB w G g least cnt gr cap L) (n : Int) (hn : n < 0 ∨ (L.length : Int) ≤ n) :
    Calls Try.prog 13 #[.pointer (some ⟨g, 0, none⟩), .int .i64 n] w fun e w' => e = .returned (.tuple #[.slice none 0 0, .int .i64 2]) ∧ w = w' := by
  obtain ⟨q0, q1, q2, _⟩ := h.cells
  obtain ⟨m, hm'⟩ : ∃ m, L.length = m := ⟨_, rfl⟩
  rw [hm'] at q2 hn
  have HN := Lib.hid (none_no g gr m cap w q2)
  clear h hm' q0 q1
  by_cases h1 : n < 0
  · clear hn
    go_enter Try.func13, Try.ntmps13
    go_wp2_with (first
      | (go_at_call 37; refine HN.out.mono ?_; rintro e w' ⟨rfl, rfl⟩)
      | fail)
    go_ret2
    exact ⟨rfl, rfl⟩
  · have h2 : (m : Int) ≤ n := by omega
    clear hn
    go_enter Try.func13, Try.ntmps13
    go_wp2_with (first
      | (go_at_call 37; refine HN.out.mono ?_; rintro e w' ⟨rfl, rfl⟩)
      | fail)
    go_ret2
    exact ⟨rfl, rfl⟩
end

/-! ### SameItems, OverItems -/
/-- A slice that reads as items. -/
def RdI (w : World) (B : Nat) (A : Option Addr) (l : List It) : Prop := ∀ k x, l[k]? = some x → ∃ g, A = some ⟨g, 0, none⟩ ∧ g < B ∧ w.cell? ⟨g, k * 2, none⟩ = some (.int .u32 x.1) ∧ w.cell? ⟨g, k * 2 + 1, none⟩ = some (.int .i64 x.2)
theorem RdI.of_own {w : World} {base c n : Nat} {A : Option Addr} {l : List It} (h : w.ownsRow base 54 2 (.slice A n c) n (itL l)) : RdI w w.heap.size A l := by
  intro k x hx
  have hk := (List.getElem?_eq_some_iff.1 hx).1
  have hn : n = l.length := by have := h.1; rw [itL_length] at this; omega
  obtain ⟨g, cap, hv, _, hlt⟩ := h.form (by omega)
  have hA : A = some ⟨g, 0, none⟩ := by injection hv
  subst hA
  obtain ⟨a0, a1⟩ := itL_at hx
  have hc := h.cells (g := g) rfl
  have c0 := hc _ _ a0
  have c1 := hc _ _ a1
  have e : ∀ j, (⟨g, 0, none⟩ : Addr).add j = ⟨g, j, none⟩ := fun j => by
    unfold Addr.add
    split
    · rename_i h0; subst h0; rfl
    · simp
  rw [e] at c0 c1
  exact ⟨g, rfl, hlt, c0, c1⟩
theorem RdI.below {w w' : World} {B : Nat} {A : Option Addr} {l : List It} (h : RdI w B A l) (hb : Below B w w') : RdI w' B A l := fun k x hx => by
  obtain ⟨g, e, hg, c0, c1⟩ := h k x hx
  exact ⟨g, e, hg, (hb.cell (p := ⟨g, k * 2, none⟩) hg).trans c0, (hb.cell (p := ⟨g, k * 2 + 1, none⟩) hg).trans c1⟩
theorem RdI.more {w : World} {B B' : Nat} {A : Option Addr} {l : List It} (h : RdI w B A l) (hB : B ≤ B') : RdI w B' A l := fun k x hx => by
  obtain ⟨g, e, hg, c⟩ := h k x hx
  exact ⟨g, e, by omega, c⟩
theorem RdI.drewN {w : World} {B : Nat} {A : Option Addr} {l : List It} (h : RdI w B A l) (n : Nat) : RdI (w.drewN n) B A l := h
set_option maxRecDepth 100000 in
set_option maxHeartbeats 4000000 in
theorem sameItems_yes (A A' : Option Addr) (c c' B B' : Nat) (l : List It) (w : World) (h : RdI w B A l) (h' : RdI w B' A' l) (hl : l.length ≤ 1099511627776) :
    Calls Try.prog 27 #[.slice A l.length c, .slice A' l.length c'] w fun e w' => e = .returned (.bool true) ∧ ∃ n, w' = w.drewN n := by
  go_enter Try.func27, Try.ntmps27
  go_wp2_with fail
  go_loopw [5] (fun i wr => ∃ k : Nat, k ≤ l.length ∧ i = .int .i64 (k : Int) ∧ ∃ n, wr = w.drewN n) (fun i _ => l.length - (intOf i).toNat)
  case atStart => exact ⟨0, Nat.zero_le _, rfl, 0, rfl⟩
  case round =>
    obtain ⟨k, hk, rfl, n, rfl⟩ := hrel
    by_cases hlt : k < l.length
    · obtain ⟨⟨x, y⟩, hx⟩ : ∃ x, l[k]? = some x := ⟨_, List.getElem?_eq_getElem hlt⟩
      obtain ⟨ad, rfl, _, c0, c1⟩ := h k _ hx
      obtain ⟨ad', rfl, _, d0, d1⟩ := h' k _ hx
      have hq : ((x == x) && (y == y)) = true := by simp
      clear hx h h'
      go_wp2_with fail
      go_quiet (fail)
      go_wp2_with fail
      go_roundw
      case rel => exact ⟨k + 1, by omega, by go_num, _, rfl⟩
      case measure => simp [intOf]; omega
    · clear h h'
      go_wp2_with fail
      go_ret
      exact ⟨ret1_b rfl, n, rfl⟩
set_option maxRecDepth 100000 in
set_option maxHeartbeats 4000000 in
theorem overItems_any (base : Nat) (v : Value) (n : Nat) (xs : List Value) (w : World) (hr : w.ownsRow base 54 2 v n xs) :
    Calls Try.prog 31 #[v] w fun e w' => e = .returned (.tuple #[]) ∧ w.grownBy w' v.ownBlock := by
  rcases hr.2 with ⟨rfl, rfl⟩ | ⟨g, cap, cur, rfl, hbg, hg, hnc, hcm, hcs, htake⟩
  · go_enter Try.func31, Try.ntmps31
    go_wp2_with fail
    go_loopw [2] (fun i w' => i = .int .i64 0 ∧ w = w') (fun i _ => 0)
    case atStart => exact ⟨rfl, rfl⟩
    case round =>
      obtain ⟨rfl, rfl⟩ := hrel
      go_wp2_with fail
      go_end0
      exact ⟨rfl, World.grownBy.refl _ _⟩
  · have hcap : cap ≤ 9223372036854775807 := by unfold maxLen at hcm; omega
    have HCS := Lib.hid (show cur.size = cap * 2 from by omega)
    have HG := Lib.hid (show Blk w g 54 cur from hg)
    clear hr hg hcs htake
    go_enter Try.func31, Try.ntmps31
    go_wp2_with fail
    go_loopw [2] (fun i w' => ∃ (k : Nat) (c' : Array Value), k ≤ cap ∧ i = .int .i64 (k : Int) ∧ Blk w' g 54 c' ∧ c'.size = cap * 2 ∧ w.grownBy w' (some g)) (fun i _ => cap - (intOf i).toNat)
    case atStart => exact ⟨0, cur, Nat.zero_le _, rfl, HG.out, HCS.out, World.grownBy.refl _ _⟩
    case round =>
      obtain ⟨k, c', hk, rfl, hG, hcs, hgr⟩ := hrel
      by_cases hlt : k < cap
      · obtain ⟨u, hcu⟩ : ∃ u, c'[k * 2]? = some u := ⟨_, Array.getElem?_eq_getElem (by omega)⟩
        obtain ⟨u1, hcu1⟩ : ∃ u, c'[k * 2 + 1]? = some u := ⟨_, Array.getElem?_eq_getElem (by omega)⟩
        have hcell : wr.cell? ⟨g, k * 2, none⟩ = some u := by rw [hG.cell]; exact hcu
        have hcell1 : wr.cell? ⟨g, k * 2 + 1, none⟩ = some u1 := by rw [hG.cell]; exact hcu1
        have hfz := hG.frozen (k * 2)
        have hfz1 := hG.frozen (k * 2 + 1)
        have HG2 := Lib.hid ((hG.set_ (k * 2) (.int .u32 77)).set_ (k * 2 + 1) (.int .i64 (-77)))
        have HGR := Lib.hid hgr
        clear hG hgr hcu hcu1
        go_wp2_with fail
        refine ⟨⟨k + 1, _, by omega, by go_num, HG2.out, by rw [Array.size_setIfInBounds, Array.size_setIfInBounds]; exact hcs, ?_⟩, by simp [intOf]; omega⟩
        refine HGR.out.trans ⟨rfl, rfl, rfl, by simp [World.setCell], fun j _ hj => ?_⟩
        exact (Below.heap_setCell _ _ _ j (fun e => hj (congrArg some e))).trans (Below.heap_setCell _ _ _ j (fun e => hj (congrArg some e)))
      · obtain rfl : k = cap := by omega
        have HGR := Lib.hid hgr
        clear hG hgr
        go_wp2_with fail
        go_end0
        exact ⟨rfl, HGR.out⟩
end Go.Proofs.Ytjipncpplpfobaa.Lb
