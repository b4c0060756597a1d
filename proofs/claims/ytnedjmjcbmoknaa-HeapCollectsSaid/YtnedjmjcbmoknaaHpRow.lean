/- Texts one behind the other (printed by wip/bin/cat.py). -/
import Derived.Test.YtnedjmjcbmoknaaLawKit
import Derived.Test.YtnedjmjcbmoknaaTm
import Derived.WalkLawsBesides
import Derived.WalkSpells
import Derived.Test.YtnedjmjcbmoknaaTmBig
import Derived.Test.YtnedjmjcbmoknaaHpLay
import Derived.Test.YtnedjmjcbmoknaaHpCol
import Derived.Test.YtnedjmjcbmoknaaHpCollect
import Derived.Test.YtnedjmjcbmoknaaHpEight
import Derived.Test.YtnedjmjcbmoknaaSameWords
import Derived.Outline
import Derived.Test.YtnedjmjcbmoknaaCheck
import Derived.Test.YtnedjmjcbmoknaaOpen
import Derived.Deep.Matrix
/- A term as a parameter, opened. -/
namespace Go.Proofs.Ytnedjmjcbmoknaa.K
open Go.RowKit Go.ChangeShapes Go.WideShapes
set_option linter.unusedVariables false
set_option linter.unusedSimpArgs false

section
variable {H : Type} {enc : TypeId × Value → H} {P : Program} {W : World}
theorem open_term_arg {e st : TypeId} {f0 f1 f2 f3 : Field} {base b0 : Nat} {held : Bool} {r : Reach} {v : Value} {d : DataW H} {p : List MemPlace} (he : P.underlying e = some (.struct #[f0, f1, f2, f3])) (hs : P.underlying st = some (.slice e)) (ce : P.cellsOf e = 4)
    (o0 : f0.offset = 0) (o1 : f1.offset = 1) (o2 : f2.offset = 2) (o3 : f3.offset = 3) (c0 : P.cellsOf f0.type = 1) (c1 : P.cellsOf f1.type = 1) (c2 : P.cellsOf f2.type = 1) (c3 : P.cellsOf f3.type = 1)
    (i0 : P.underlying f0.type = some (.int .i64)) (i1 : P.underlying f1.type = some (.int .i64)) (i2 : P.underlying f2.type = some .string) (i3 : f3.type = st)
    (o : Value.okWide P W r b0 e v) (h : DataW.Trod enc P W base (fun _ => true) held e v d p) : ∃ t, TA W t v := by
  obtain ⟨cs, rfl, _⟩ := okWide_struct he o
  obtain ⟨fuel, hf⟩ := h
  obtain ⟨t, x0, x1, x2, x3, hcs, ht⟩ := open_tm he hs ce o0 o1 o2 o3 c0 c1 c2 c3 i0 i1 i2 i3 fuel _ _ hf
  have : cs = #[x0, x1, x2, x3] := by
    have h2 : cs.toList = [x0, x1, x2, x3] := hcs
    rw [← Array.toArray_toList (xs := cs), h2]
  rw [this]
  exact ⟨t, ht⟩
end
set_option maxRecDepth 100000 in
theorem open_t {H : Type} {enc : TypeId × Value → H} {W : World} {base b0 : Nat} {held : Bool} {r : Reach} {v : Value} {d : DataW H} {p : List MemPlace} (o : Value.okWide Try.prog W r b0 28 v) (h : DataW.Trod enc Try.prog W base (fun _ => true) held 28 v d p) : ∃ t, TA W t v :=
  open_term_arg (st := 26) Try.underlying28 Try.underlying26 (by kernel_rfl) rfl rfl rfl rfl (by kernel_rfl) (by kernel_rfl) (by kernel_rfl) (by kernel_rfl) (by kernel_rfl) (by kernel_rfl) (by kernel_rfl) rfl o h
end Go.Proofs.Ytnedjmjcbmoknaa.K
/- A slice of terms as a parameter, opened. -/
namespace Go.Proofs.Ytnedjmjcbmoknaa.K
open Go.RowKit Go.ChangeShapes Go.WideShapes Go.Deep
set_option linter.unusedVariables false
set_option linter.unusedSimpArgs false

section
variable {H : Type} {enc : TypeId × Value → H} {P : Program} {W : World}
theorem open_terms_arg {e st : TypeId} {f0 f1 f2 f3 : Field} {base b0 : Nat} {held : Bool} {r : Reach} {v : Value} {d : DataW H} {p : List MemPlace} (he : P.underlying e = some (.struct #[f0, f1, f2, f3])) (hs : P.underlying st = some (.slice e)) (ce : P.cellsOf e = 4)
    (o0 : f0.offset = 0) (o1 : f1.offset = 1) (o2 : f2.offset = 2) (o3 : f3.offset = 3) (c0 : P.cellsOf f0.type = 1) (c1 : P.cellsOf f1.type = 1) (c2 : P.cellsOf f2.type = 1) (c3 : P.cellsOf f3.type = 1)
    (i0 : P.underlying f0.type = some (.int .i64)) (i1 : P.underlying f1.type = some (.int .i64)) (i2 : P.underlying f2.type = some .string) (i3 : f3.type = st)
    (o : Value.okWide P W r b0 st v) (h : DataW.Trod enc P W base (fun _ => true) held st v d p) : ∃ (A : Option Addr) (c : Nat) (l : List Tm), v = .slice A l.length c ∧ TsA W A l ∧ l.length ≤ c ∧ c ≤ maxLen ∧ (A = none → c = 0) := by
  obtain ⟨a, n, c, rfl⟩ := okWide_slice hs o
  obtain ⟨fuel, hf⟩ := h
  rcases DataW.trod_slice hs hf with ⟨hcs, _⟩ | ⟨a, len, cap, elems, rest, q, hq, hcs, _, hb, hlc, hcm, hel, helem, _, _⟩
  · simp [Value.cells] at hcs
    obtain ⟨rfl, rfl, rfl⟩ := hcs
    exact ⟨none, 0, [], rfl, TsAt.nil _ _ _, by simp, by simp [maxLen], fun _ => rfl⟩
  · simp [Value.cells] at hcs
    obtain ⟨rfl, rfl, rfl⟩ := hcs
    have op := fun (fuel : Nat) => open_tm (enc := enc) (W := W) (base := base) (held := held) he hs ce o0 o1 o2 o3 c0 c1 c2 c3 i0 i1 i2 i3 fuel
    have hspot : ∀ i, i < n → a.spot = none := fun i hi => by
      have h1 := helem 0 (by omega)
      rw [List.getElem?_eq_getElem (by omega)] at h1
      obtain ⟨cs', h2, h3⟩ := Option.bind_eq_some_iff.1 h1
      obtain ⟨u, z0, z1, z2, z3, rfl, hu⟩ := op _ cs' _ h3
      obtain ⟨_, _, hcell⟩ := World.cells?_some h2
      rw [ce] at hcell
      have := World.cell?_spot (hcell 0 (by omega))
      simpa [Addr.add] using this
    have hall : ∀ i, i < n → ∃ u v, Slot W (· < W.heap.size) (some a) i v ∧ TAt W (· < W.heap.size) u v := fun i hi => by
      have h1 := helem i hi
      rw [List.getElem?_eq_getElem (by omega)] at h1
      obtain ⟨cs', h2, h3⟩ := Option.bind_eq_some_iff.1 h1
      obtain ⟨u, z0, z1, z2, z3, rfl, hu⟩ := op _ cs' _ h3
      obtain ⟨_, _, hcell⟩ := World.cells?_some h2
      rw [ce] at hcell
      have d0 := hcell 0 (by omega)
      have d1 := hcell 1 (by omega)
      have d2 := hcell 2 (by omega)
      have d3 := hcell 3 (by omega)
      simp only [ce, add_of_add] at d0 d1 d2 d3
      have hlt := World.block_lt_of_cell? _ _ d0
      rw [block_of_add] at hlt
      obtain ⟨b, off, sp⟩ := a
      obtain rfl : sp = none := hspot i hi
      rw [add_plain'] at d0 d1 d2 d3
      exact ⟨u, _, ⟨b, off, _, _, _, _, rfl, hlt, rfl, d0, d1, d2, d3⟩, hu⟩
    obtain ⟨U, hU⟩ := choose_lt (p := fun i u => ∃ v, Slot W (· < W.heap.size) (some a) i v ∧ TAt W (· < W.heap.size) u v) hall
    refine ⟨some a, c, (List.range n).map U, by simp, fun i u hu => ?_, by simpa using hlc, hcm, fun h => by cases h⟩
    rw [List.getElem?_map] at hu
    have hi : i < n := by
      rcases Nat.lt_or_ge i n with h | h
      · exact h
      · rw [List.getElem?_eq_none (by simpa using h)] at hu; cases hu
    rw [List.getElem?_range hi] at hu
    simp at hu
    subst hu
    exact hU i hi
end
set_option maxRecDepth 100000 in
theorem open_ts {H : Type} {enc : TypeId × Value → H} {W : World} {base b0 : Nat} {held : Bool} {r : Reach} {v : Value} {d : DataW H} {p : List MemPlace} (o : Value.okWide Try.prog W r b0 26 v) (h : DataW.Trod enc Try.prog W base (fun _ => true) held 26 v d p) :
    ∃ (A : Option Addr) (c : Nat) (l : List Tm), v = .slice A l.length c ∧ TsA W A l ∧ l.length ≤ c ∧ c ≤ maxLen ∧ (A = none → c = 0) :=
  open_terms_arg Try.underlying28 Try.underlying26 (by kernel_rfl) rfl rfl rfl rfl (by kernel_rfl) (by kernel_rfl) (by kernel_rfl) (by kernel_rfl) (by kernel_rfl) (by kernel_rfl) (by kernel_rfl) rfl o h
end Go.Proofs.Ytnedjmjcbmoknaa.K
/- tenurekit.Pick, by its contract. -/
namespace Go.Proofs.Ytnedjmjcbmoknaa.K
open Go.RowKit
set_option linter.unusedVariables false
set_option linter.unusedSimpArgs false

def pickN (x n : Int) : Int := if n < 1 then 0 else x % n
theorem pickN_range {x n : Int} (h : 1 ≤ n) : 0 ≤ pickN x n ∧ pickN x n < n := by
  unfold pickN
  rw [if_neg (by omega)]
  exact ⟨Int.emod_nonneg _ (by omega), Int.emod_lt_of_pos _ (by omega)⟩
theorem tmod_up {x n : Int} (hn : 1 ≤ n) (h : x.tmod n < 0) : x.tmod n + n = x % n := by
  have h1 := Int.emod_nonneg x (b := n) (by omega)
  rw [Int.tmod_eq_emod] at h ⊢
  split at h <;> rename_i hc
  · omega
  · rw [if_neg hc]; omega
theorem tmod_same {x n : Int} (hn : 1 ≤ n) (h : 0 ≤ x.tmod n) : x.tmod n = x % n := by
  have h1 := Int.emod_lt_of_pos x (b := n) (by omega)
  rw [Int.tmod_eq_emod] at h ⊢
  split at h <;> rename_i hc
  · rw [if_pos hc]; omega
  · exfalso; omega

set_option maxHeartbeats 4000000 in
theorem pick_any (x n : Int) (hx : (Lit.int .i64 x).wf = true) (hn : (Lit.int .i64 n).wf = true) (w : World) :
    Calls Try.prog 26 #[.int .i64 x, .int .i64 n] w fun e w' => e = .returned (.int .i64 (pickN x n)) ∧ w = w' := by
  obtain ⟨x1, x2⟩ := bounds_i64 hx
  obtain ⟨n1, n2⟩ := bounds_i64 hn
  clear hx hn
  by_cases a : n < 1
  · have e1 : pickN x n = 0 := by unfold pickN; rw [if_pos a]
    rw [e1]; clear e1
    go_enter Try.func26, Try.ntmps26
    go_wp2
    go_ret
    exact ⟨ret1_i rfl, rfl⟩
  · have e1 : pickN x n = x % n := by unfold pickN; rw [if_neg a]
    rw [e1]; clear e1
    have a' : 1 ≤ n := by omega
    clear a
    have r1 := Int.emod_nonneg x (b := n) (by omega)
    have r2 := Int.emod_lt_of_pos x (b := n) (by omega)
    by_cases b : 0 ≤ x
    · go_enter Try.func26, Try.ntmps26
      go_wp2
      go_ret
      exact ⟨ret1_i rfl, rfl⟩
    · have b' : x < 0 := by omega
      by_cases c : x.tmod n < 0
      · have E := Lib.hid (tmod_up a' c)
        have c2 : -n ≤ x.tmod n := by
          have := tmod_up a' c
          omega
        clear b
        go_enter Try.func26, Try.ntmps26
        go_wp2
        go_ret
        exact ⟨ret1_i E.out, rfl⟩
      · have c' : 0 ≤ x.tmod n := by omega
        have E := Lib.hid (tmod_same a' c')
        clear b c
        go_enter Try.func26, Try.ntmps26
        go_wp2
        go_ret
        exact ⟨ret1_i E.out, rfl⟩
end Go.Proofs.Ytnedjmjcbmoknaa.K
/- LargeAll, by its contract. -/
namespace Go.Proofs.Ytnedjmjcbmoknaa.K
open Go.RowKit
set_option linter.unusedVariables false
set_option linter.unusedSimpArgs false

set_option maxRecDepth 100000 in
set_option maxHeartbeats 4000000 in
theorem largeAll_any (l : List Tm) (m : Nat) (A : Option Addr) (c : Nat) (w : World) (hm : m ≤ 1048576) (hl : TsA w A l) (hll : l.length ≤ maxLen) :
    Calls Try.prog 24 #[.slice A l.length c, .int .i64 (m : Int)] w fun e w' => e = .returned (.bool (largeB l m)) ∧ Below w.heap.size w w' := by
  unfold maxLen at hll
  have HL := Lib.hid hl
  clear hl
  go_enter Try.func24, Try.ntmps24
  go_wp2_with fail
  go_loopw [5, 6] (fun n i wr => ∃ k N : Nat, k ≤ l.length ∧ i = .int .i64 (k : Int) ∧ n = .int .i64 (N : Int) ∧ N = nodesL (l.take k) ∧ N ≤ m ∧ tlongL (l.take k) = false ∧ Below w.heap.size w wr) (fun _ i _ => l.length - (intOf i).toNat)
  case atStart => exact ⟨0, 0, Nat.zero_le _, rfl, rfl, by simp [nodesL_nil], Nat.zero_le _, by simp [tlongL_nil], Below.refl _ _⟩
  case round =>
    obtain ⟨k, N, hk, rfl, rfl, hN, hNm, hlo, hb⟩ := hrel
    have HB := Lib.hid hb
    have HN := Lib.hid hN
    have HLO := Lib.hid hlo
    clear hb hN hlo
    by_cases hlt : k < l.length
    · obtain ⟨u, hu⟩ : ∃ u, l[k]? = some u := ⟨_, List.getElem?_eq_getElem hlt⟩
      obtain ⟨b, o, A1, c1, rfl, hb1, d0, d1, d2, d3, hta, _⟩ := (HL.out.later HB.out).at_ hu
      have HTA := Lib.hid hta
      have hms := nodesL_take_succ hu
      have hle := nodesL_take_le l (k + 1)
      have hc := parts_any u m _ wr hm hta
      have hpos := nodes_pos u
      obtain ⟨y, hy⟩ : ∃ y : Nat, min (nodes u) (m + 1) = y := ⟨_, rfl⟩
      rw [hy] at hc
      have hy1 : 1 ≤ y := by omega
      have hy2 : y ≤ m + 1 := by omega
      have HC := Lib.hid hc
      have HU := Lib.hid (tlongL_take_succ hu)
      have HM := Lib.hid (List.mem_of_getElem? hu)
      by_cases hbig : m < N + y
      · have z1 : (m : Int) < (N : Int) + (y : Int) := by omega
        have HE := Lib.hid (show largeB l m = true from by unfold largeB; rw [show decide (m < nodesL l) = true from decide_eq_true (by have := HN.out; omega)]; rfl)
        clear hta hc hu hy hms hle
        go_wp2_with (first | (go_at_call 43; refine HC.out.mono ?_; rintro e w2 ⟨rfl, hb2⟩; have HB2 := Lib.hid hb2; clear hb2) | fail)
        go_ret
        exact ⟨ret1_b HE.out.symm, bnext HB.out HB2.out⟩
      · have z1 : ¬ (m : Int) < (N : Int) + (y : Int) := by omega
        have HS := Lib.hid (show N + y = nodesL (l.take (k + 1)) from by have := HN.out; omega)
        clear hta hc hu hy hms hle
        cases hlu : tlong u with
        | true =>
          have HE := Lib.hid (show largeB l m = true from by unfold largeB; rw [tlongL_of HM.out hlu]; simp)
          go_wp2_with (first
            | (go_at_call 43; refine HC.out.mono ?_; rintro e w2 ⟨rfl, hb2⟩
               obtain ⟨p0, p1, p2, p3⟩ : w2.cell? ⟨b, o + k * 4, none⟩ = some (.int .i64 u.k) ∧ w2.cell? ⟨b, o + k * 4 + 1, none⟩ = some (.int .i64 u.n) ∧ w2.cell? ⟨b, o + k * 4 + 2, none⟩ = some (.string u.s) ∧ w2.cell? ⟨b, o + k * 4 + 3, none⟩ = some (.slice A1 u.l.length c1) := ⟨(hb2.cell (p := ⟨b, o + k * 4, none⟩) hb1).trans d0, (hb2.cell (p := ⟨b, o + k * 4 + 1, none⟩) hb1).trans d1, (hb2.cell (p := ⟨b, o + k * 4 + 2, none⟩) hb1).trans d2, (hb2.cell (p := ⟨b, o + k * 4 + 3, none⟩) hb1).trans d3⟩
               have HLG := Lib.hid (hlu ▸ long_any _ _ w2 (HTA.out.later hb2))
               have HB2 := Lib.hid hb2; clear hb2)
            | (go_at_call 44; refine HLG.out.mono ?_; rintro e w3 ⟨rfl, hb3⟩; have HB3 := Lib.hid hb3; clear hb3)
            | fail)
          go_ret
          exact ⟨ret1_b HE.out.symm, bnext HB.out (bnext HB2.out HB3.out)⟩
        | false =>
          rw [hlu] at HU
          go_wp2_with (first
            | (go_at_call 43; refine HC.out.mono ?_; rintro e w2 ⟨rfl, hb2⟩
               obtain ⟨p0, p1, p2, p3⟩ : w2.cell? ⟨b, o + k * 4, none⟩ = some (.int .i64 u.k) ∧ w2.cell? ⟨b, o + k * 4 + 1, none⟩ = some (.int .i64 u.n) ∧ w2.cell? ⟨b, o + k * 4 + 2, none⟩ = some (.string u.s) ∧ w2.cell? ⟨b, o + k * 4 + 3, none⟩ = some (.slice A1 u.l.length c1) := ⟨(hb2.cell (p := ⟨b, o + k * 4, none⟩) hb1).trans d0, (hb2.cell (p := ⟨b, o + k * 4 + 1, none⟩) hb1).trans d1, (hb2.cell (p := ⟨b, o + k * 4 + 2, none⟩) hb1).trans d2, (hb2.cell (p := ⟨b, o + k * 4 + 3, none⟩) hb1).trans d3⟩
               have HLG := Lib.hid (hlu ▸ long_any _ _ w2 (HTA.out.later hb2))
               have HB2 := Lib.hid hb2; clear hb2)
            | (go_at_call 44; refine HLG.out.mono ?_; rintro e w3 ⟨rfl, hb3⟩; have HB3 := Lib.hid hb3; clear hb3)
            | fail)
          go_roundw
          case rel => exact ⟨k + 1, N + y, by omega, by go_num, by go_num, HS.out, by omega, by rw [HU.out, HLO.out]; rfl, bnext HB.out (bnext HB2.out HB3.out)⟩
          case measure => simp [intOf]; omega
    · obtain rfl : k = l.length := by omega
      have HE := Lib.hid (show largeB l m = false from by
        have h1 := HN.out
        have h2 := HLO.out
        rw [List.take_length] at h1 h2
        unfold largeB
        rw [h2, show decide (m < nodesL l) = false from decide_eq_false (by omega)]
        rfl)
      go_wp2_with fail
      go_ret
      exact ⟨ret1_b HE.out.symm, HB.out⟩
end Go.Proofs.Ytnedjmjcbmoknaa.K
/- starts: all that a heap has is reached from its roots. -/
namespace Go.Proofs.Ytnedjmjcbmoknaa.Hp
open Go.RowKit K At Wd Fl
set_option linter.unusedVariables false
set_option linter.unusedSimpArgs false

/-! ### Plain -/
def todo (K : List It) (rs : List Int) (sn : List Int) : List Int := rs ++ sn.flatMap (fun p => (itm K p).ws)
theorem todo_snoc (K : List It) (rs sn : List Int) (p : Int) : todo K rs (sn ++ [p]) = todo K rs sn ++ (itm K p).ws := by unfold todo; simp
theorem todo_len (K : List It) (rs sn : List Int) : (todo K rs sn).length ≤ rs.length + tot K sn := by
  induction sn with
  | nil => unfold todo; simp
  | cons p r ih =>
    have h1 := itW_len (itm K p)
    have h2 : lenI K p = (itW (itm K p)).length := rfl
    rw [tot_cons]
    unfold todo at ih ⊢
    simp only [List.flatMap_cons, List.length_append] at ih ⊢
    have : (itm K p).ws.length ≤ (itW (itm K p)).length := by unfold itW; rw [List.length_append]; omega
    omega
/-- What the search has at its i-th word. -/
structure Sq (K : List It) (a : Nat) (rs sn : List Int) (i : Nat) : Prop where
  le : i ≤ (todo K rs sn).length
  sn_ : sn = addAll [] ((todo K rs sn).take i)
  ok : ∀ u ∈ todo K rs sn, U64 u ∧ may K a u = true
  ps : Ps K sn
section
variable {K : List It} {a : Nat} {rs sn : List Int} {i : Nat} {u : Int}
theorem Sq.start (hrs : ∀ u ∈ rs, U64 u ∧ may K a u = true) : Sq K a rs [] 0 := ⟨Nat.zero_le _, by simp [addAll], by unfold todo; simpa using hrs, Ps.nil K⟩
theorem Sq.skip (h : Sq K a rs sn i) (hu : (todo K rs sn)[i]? = some u) (hb : boxd u = false ∨ unN u ∈ sn) : Sq K a rs sn (i + 1) := by
  have hl := (List.getElem?_eq_some_iff.1 hu).1
  refine ⟨hl, ?_, h.ok, h.ps⟩
  rw [take_snoc_int hu, addAll_snoc, ← h.sn_]
  unfold add
  rw [if_neg (fun h' => by
    rcases hb with e | e
    · rw [e] at h'; exact absurd h'.1 (by simp)
    · exact h'.2 e)]
theorem Sq.new (hw : Wf K a) (h : Sq K a rs sn i) (hu : (todo K rs sn)[i]? = some u) (hb : boxd u = true) (hn : unN u ∉ sn) : Sq K a rs (sn ++ [unN u]) (i + 1) ∧ todo K rs (sn ++ [unN u]) = todo K rs sn ++ (itm K (unN u)).ws := by
  have hl := (List.getElem?_eq_some_iff.1 hu).1
  have hm := (h.ok u (List.mem_of_getElem? hu)).2
  have ht := todo_snoc K rs sn (unN u)
  have hadd : add sn u = sn ++ [unN u] := by unfold add; rw [if_pos ⟨hb, hn⟩]
  have hps : Ps K (sn ++ [unN u]) := by rw [← hadd]; exact add_ps h.ps hm
  refine ⟨⟨by rw [ht, List.length_append]; omega, ?_, fun v hv => ?_, hps⟩, ht⟩
  · rw [ht, List.take_append_of_le_length (by omega), take_snoc_int hu, addAll_snoc, ← h.sn_, hadd]
  · rw [ht] at hv
    rcases List.mem_append.1 hv with e | e
    · exact h.ok v e
    · exact hw.words _ (itAt_mem (hps.itAt (by simp))) v e
/-- All has been met. -/
theorem Sq.all (h : Sq K a rs sn i) (hi : i = (todo K rs sn).length) {qs : List Int} (hrun : Run K 0 (addAll [] rs) qs) (hq : tot K qs = (hW K).length) (hqs : Ps K qs) : tot K sn = (hW K).length := by
  have hsn := h.sn_
  rw [hi, List.take_length] at hsn
  have hmem : ∀ u ∈ todo K rs sn, boxd u = true → unN u ∈ sn := fun u hu hb => by
    have := addAll_mem (ps := []) hu hb
    rwa [← hsn] at this
  have hc : Cl K sn := fun p hp u hu hb => hmem u (by unfold todo; exact List.mem_append.2 (.inr (List.mem_flatMap.2 ⟨p, hp, hu⟩))) hb
  have h1 := Run.least hc hrun (addAll_in (fun p hp => by cases hp) (fun u hu hb => hmem u (by unfold todo; exact List.mem_append.2 (.inl hu)) hb))
  have h2 := sum_sub (lenI K) qs sn hqs.nd h1
  rw [← tot_sum, ← tot_sum] at h2
  have := tot_le h.ps
  omega
end
/-- What is seen. -/
def sb (N : Nat) (sn : List Int) : List Value := (List.range N).map fun p : Nat => Value.bool (decide ((p : Int) ∈ sn))
theorem sb_len (N : Nat) (sn : List Int) : (sb N sn).length = N := by unfold sb; simp
theorem sb_get {N p : Nat} (sn : List Int) (h : p < N) : (sb N sn)[p]? = some (.bool (decide ((p : Int) ∈ sn))) := by
  unfold sb
  rw [List.getElem?_map, List.getElem?_range h]; rfl
theorem sb_set {N p : Nat} (sn : List Int) (h : p < N) : (sb N sn).set p (.bool true) = sb N (sn ++ [(p : Int)]) := by
  apply List.ext_getElem?
  intro j
  rw [List.getElem?_set]
  by_cases hj : j < N
  · by_cases e : p = j
    · subst e
      rw [if_pos rfl, if_pos (by rw [sb_len]; exact h), sb_get _ h]
      simp
    · rw [if_neg e, sb_get _ hj, sb_get _ hj]
      congr 2
      simp
      intro e'; exact absurd (show p = j by omega) e
  · rw [List.getElem?_eq_none (l := sb N (sn ++ [(p : Int)])) (by rw [sb_len]; omega)]
    split
    · omega
    · exact List.getElem?_eq_none (by rw [sb_len]; omega)
theorem sb_nil (N : Nat) : sb N [] = List.replicate N (Value.bool false) := by
  unfold sb
  apply List.ext_getElem?
  intro j
  by_cases hj : j < N
  · rw [List.getElem?_map, List.getElem?_range hj, List.getElem?_replicate, if_pos hj]; simp
  · rw [List.getElem?_eq_none (by simp; omega), List.getElem?_eq_none (by simp; omega)]
theorem sb_one (N : Nat) (sn : List Int) : ∀ v ∈ sb N sn, v.oneCell' = true := fun v hv => by
  unfold sb at hv
  obtain ⟨z, _, rfl⟩ := List.mem_map.1 hv
  rfl
/-- Two rows of other elements lie in other blocks. -/
theorem row_row_ne {w : World} {b1 b2 n1 n2 s1 s2 : Nat} {e1 e2 : TypeId} {v1 v2 : Value} {x1 x2 : List Value} (h1 : w.ownsRow b1 e1 s1 v1 n1 x1) (h2 : w.ownsRow b2 e2 s2 v2 n2 x2) (hne : e1 ≠ e2) : ∀ r, v2.ownBlock = some r → v1.ownBlock ≠ some r := fun r hr => by
  rcases h2.2 with ⟨rfl, _⟩ | ⟨g, cap, cur, rfl, _, hg, _⟩
  · simp [Value.ownBlock] at hr
  · have : r = g := by simp [Value.ownBlock] at hr; exact hr.symm
    subst this
    exact own_blk_ne h1 hg hne
/-! ### CopyWords -/
set_option maxRecDepth 100000 in
set_option maxHeartbeats 800000 in
theorem copyW_any (A : Option Addr) (c n : Nat) (ws : List Int) (w : World) (hr : Reads w w.heap.size 1 A n (u64s ws)) (hl : n ≤ 16777216) :
    Calls Try.prog 60 #[.slice A n c] w fun e w' => ∃ A1 c1, e = .returned (.slice A1 n c1) ∧ w'.ownsRow w.heap.size 31 1 (.slice A1 n c1) n (u64s ws) ∧ Below w.heap.size w w' := by
  obtain ⟨i0, hi, hy0, hy1, hy2⟩ := info_parts infoW
  have hb : Below w.heap.size w (w.alloc (.cells #[] 31)) := ballocs (Below.refl _ _) _
  have ho : (w.alloc (.cells #[] 31)).ownsRow w.heap.size 31 1 (.slice (some ⟨w.heap.size, 0, none⟩) 0 0) 0 [] := World.ownsRow_lit w #[] 0 (Nat.le_refl _) (Nat.zero_le _) (by simp)
  obtain ⟨v', w1, hrun, hR, hg, hat⟩ := run_append_any (P := Try.prog) _ w.heap.size 39 39 31 i0 _ 1 8 Try.underlying39 hi hy0 hy1 hy2 rfl (by decide) _ 0 [] ho w.heap.size A n c _ (hr.below hb) (u64s_one _) (by unfold maxLen; omega) (by omega) hb.size
  obtain ⟨A1, c1, rfl, _, _⟩ := ownsRow_form hR
  rw [Nat.zero_add, List.nil_append] at hR
  rw [Nat.zero_add] at hrun
  have HR1 := Lib.hid hrun; have HO := Lib.hid hR
  have HB := Lib.hid (show Below w.heap.size w w1 from hb.grown hg hb.size (fun k hk => by simp [Value.ownBlock] at hk; omega))
  clear hrun hR hg hat hr hb ho hi hy0 hy1 hy2
  go_enter Try.func60, Try.ntmps60
  go_wp2_with (first
    | (at_builtin; refine wpList_append_run (o := ⟨some 5, _, _, _, _, _⟩) (.tmp 3) (.tmp 4) 39 _ _ _ HR1.out rfl rfl (by simp [Act.eval, Act.put]) (by simp [Act.eval, Act.put]) ?_)
    | fail)
  go_ret
  exact ⟨A1, c1, rfl, HO.out, HB.out⟩
/-! ### In memory -/
theorem infoB : (Try.prog.info? 4).map (fun i => (i.zero, i.size, i.bytes)) = some (some (.bool false), 1, 1) := by kernel_rfl
theorem seen_make (w : World) (N : Nat) (h : N ≤ 16777217) : ∃ w', (Instr.makeSlice 106 (.int .i64 (N : Int)) (.int .i64 (N : Int))).run Try.prog w = .ok (.slice (some ⟨w.heap.size, 0, none⟩) N N) w' ∧ w'.ownsRow w.heap.size 4 1 (.slice (some ⟨w.heap.size, 0, none⟩) N N) N (sb N []) ∧ Below w.heap.size w w' := by
  obtain ⟨i0, hi, hz0, hz1, hz2⟩ := info_parts infoB
  have hr := run_make (P := Try.prog) w 106 4 i0 _ Try.underlying106 hi hz0 .i64 .i64 N N (by omega) (by omega) (by rw [hz2]; omega) (by omega)
  refine ⟨_, hr, ⟨by rw [sb_len]; omega, .inr ⟨w.heap.size, N, _, rfl, Nat.le_refl _, heap_alloc_new w _, Nat.le_refl _, by unfold maxLen; omega, by rw [size_madeCells, hz1]; simp, ?_⟩⟩, ballocs (Below.refl _ _) _⟩
  rw [hz1, Nat.mul_one, show (Value.bool false).cells = #[.bool false] from rfl, toList_madeCells_one, sb_nil]
  simp
/-- The search in memory. -/
structure Sm (w wr : World) (K : List It) (rs : List Int) (N : Nat) (gs : Nat) (sn : List Int) (vt : Value) : Prop where
  bl : Below w.heap.size w wr
  seen : wr.ownsRow w.heap.size 4 1 (.slice (some ⟨gs, 0, none⟩) N N) N (sb N sn)
  td : wr.ownsRow w.heap.size 31 1 vt (todo K rs sn).length (u64s (todo K rs sn))
section
variable {w wr w' : World} {K : List It} {rs sn : List Int} {N gs : Nat} {vt : Value}
theorem Sm.below (h : Sm w wr K rs N gs sn vt) (hb : Below wr.heap.size wr w') : Sm w w' K rs N gs sn vt :=
  ⟨fbelow h.bl hb, ownsRow_below h.seen hb (fun r hr => (h.seen.lt r hr).2), ownsRow_below h.td hb (fun r hr => (h.td.lt r hr).2)⟩
theorem Sm.gs_ (h : Sm w wr K rs N gs sn vt) : w.heap.size ≤ gs ∧ gs < wr.heap.size := h.seen.lt gs rfl
theorem Sm.at_ (h : Sm w wr K rs N gs sn vt) {i : Nat} {u : Int} (hu : (todo K rs sn)[i]? = some u) : ∃ ad c, vt = .slice (some ad) (todo K rs sn).length c ∧ ad.block < wr.heap.size ∧ wr.cell? (ad.add i) = some (.int .u64 u) := by
  obtain ⟨A, c, rfl, _, _⟩ := ownsRow_form h.td
  obtain ⟨ad, uv, rfl, hab, huv, hcell⟩ := (Reads.of_own h.td).at_ (k := i) (List.getElem?_eq_some_iff.1 hu).1
  unfold u64s at huv
  rw [List.getElem?_map, hu] at huv
  injection huv with huv
  subst huv
  exact ⟨ad, c, rfl, hab, hcell⟩
theorem Sm.look (h : Sm w wr K rs N gs sn vt) {p : Nat} (hp : p < N) : wr.cell? ⟨gs, p, none⟩ = some (.bool (decide ((p : Int) ∈ sn))) ∧ wr.frozen? ⟨gs, p, none⟩ = false := by
  obtain ⟨r, c', hv, _, _, _, _, k5⟩ := ownsRow_at h.seen hp
  injection hv with hv _ _
  injection hv with hv
  injection hv with hv
  subst hv
  exact ⟨k5 p _ (sb_get sn hp), h.seen.frozenAt p⟩
theorem Sm.mark (h : Sm w wr K rs N gs sn vt) {p : Nat} (hp : p < N) : ∃ z : World, z = wr.setCell ⟨gs, p, none⟩ (.bool true) ∧ Below w.heap.size w z ∧ z.ownsRow w.heap.size 4 1 (.slice (some ⟨gs, 0, none⟩) N N) N (sb N (sn ++ [(p : Int)])) ∧ z.ownsRow w.heap.size 31 1 vt (todo K rs sn).length (u64s (todo K rs sn)) := by
  have hg := h.gs_
  obtain ⟨q1, q2⟩ := h.seen.stored p (.bool true)
  rw [sb_set sn hp] at q1
  have hk : Keep (fun b => b = gs) wr (wr.setCell ⟨gs, p, none⟩ (.bool true)) := (Keep.refl (fun b => b = gs) wr).setCell (p := ⟨gs, p, none⟩) (.inl rfl) _
  exact ⟨_, rfl, h.bl.setCell (p := ⟨gs, p, none⟩) hg.1 _, q1, ownsRow_keep h.td hk (fun r hr e => row_row_ne h.seen h.td (by decide) r hr (by rw [e]; rfl))⟩
end
end Go.Proofs.Ytnedjmjcbmoknaa.Hp
/- starts, by its contract. -/
namespace Go.Proofs.Ytnedjmjcbmoknaa.Hp
open Go.RowKit K At Wd Fl
set_option linter.unusedVariables false
set_option linter.unusedSimpArgs false

/-- What a round of the search has and leaves. -/
theorem Sm.round {w wr : World} {F : Nat → Prop} {gh g : Nat} {L : List ByteArray} {lim : Int} {K : List It} {rs sn : List Int} {U gs i : Nat} {vt : Value} (hh : Hp w F gh g L lim K) (hU : (hW K).length = U) {N : Nat} (h : Sm w wr K rs N gs sn vt) (hq : Sq K L.length rs sn i) (hlt : i < (todo K rs sn).length) (hlen : rs.length + U ≤ 60020) :
    ∃ (ad : Addr) (c m : Nat) (u k nn : Int), vt = .slice (some ad) m c ∧ m = (todo K rs sn).length ∧ i < m ∧ m ≤ 60020 ∧ ad.block < wr.heap.size ∧ wr.cell? (ad.add i) = some (.int .u64 u) ∧ RowKit.Hid (∀ w, Calls Try.prog 34 #[.int .u64 u] w (fun r w' => r = .returned (.tuple #[.int .i64 k, .int .i64 nn, .int .i64 0]) ∧ Below w.heap.size w w')) ∧
      RowKit.Hid (∀ w, Calls Try.prog 35 #[.int .u64 u] w fun e w' => e = .returned (.bool (boxd u)) ∧ w' = w) ∧
      (boxd u = false → Sq K L.length rs sn (i + 1)) ∧
      (boxd u = true → ∃ p : Nat, nn = (p : Int) ∧ p < U ∧ (nn ∈ sn → Sq K L.length rs sn (i + 1)) ∧
        (nn ∉ sn → ∃ n1 : Nat, RowKit.Hid (∀ wx, Below w.heap.size w wx → Calls Try.prog 20 #[.pointer (some ⟨gh, 0, none⟩), .int .u64 u] wx fun e w' => ∃ A c, e = .returned (.tuple #[.slice A n1 c, .int .i64 0]) ∧ w'.ownsRow wx.heap.size 31 1 (.slice A n1 c) n1 (u64s (itm K nn).ws) ∧ Below wx.heap.size wx w') ∧ Sq K L.length rs (sn ++ [nn]) (i + 1) ∧
          (tot K (sn ++ [nn]) : Int) = (tot K sn : Int) + (n1 : Int) + (if k = 9 then 0 else 1) ∧ (todo K rs (sn ++ [nn]) = todo K rs sn ++ (itm K nn).ws) ∧ n1 ≤ 64 ∧ tot K (sn ++ [nn]) ≤ U)) := by
  obtain ⟨u, hu⟩ : ∃ u, (todo K rs sn)[i]? = some u := ⟨_, List.getElem?_eq_getElem hlt⟩
  obtain ⟨ad, c, rfl, hab, hcell⟩ := h.at_ hu
  obtain ⟨h1, h2⟩ := hq.ok u (List.mem_of_getElem? hu)
  have htl := todo_len K rs sn
  have htt := tot_le hq.ps
  refine ⟨ad, c, _, u, unK u, unN u, rfl, rfl, hlt, by omega, hab, hcell, Lib.hid (fun w => unpack_as h1 rfl rfl (may_E h2) w), Lib.hid (fun w => boxed_any u h1.1 h1.2 w), fun hb => hq.skip hu (.inl hb), fun hb => ?_⟩
  obtain ⟨x, hx, hk⟩ := may_box h2 hb
  obtain ⟨s1, s2, _⟩ := itAt_seg hx
  have hp := hh.1.wf.pos x (itAt_mem hx)
  refine ⟨(unN u).toNat, by omega, by omega, fun hin => hq.skip hu (.inr hin), fun hn => ?_⟩
  obtain ⟨hq', ht⟩ := hq.new hh.1.wf hu hb hn
  have hok := hh.1.wf.ok x (itAt_mem hx)
  have hiw := itW_len x
  refine ⟨(itm K (unN u)).ws.length, Lib.hid (fun wx hbx => ?_), hq', ?_, ht, by rw [itm_some hx]; exact hok.len, by have := tot_le hq'.ps; omega⟩
  · exact hparts_ok gh g L lim K u wx F (hh.below hbx) h1 h2 _ (by rw [if_pos hb])
  · rw [tot_app, tot_one]
    unfold lenI
    rw [itm_some hx, ← hk]
    have hbx := hok.box
    unfold boxK at hbx
    by_cases h9 : x.k = 9
    · rw [if_pos h9]; rw [if_neg (by omega)] at hiw; omega
    · rw [if_neg h9]; rw [if_pos (by omega)] at hiw; omega
/-- The parts are appended. -/
theorem Sm.push {w z z' : World} {K : List It} {rs sn : List Int} {N gs n1 m c c2 : Nat} {nn : Int} {A A2 : Option Addr} (hb : Below w.heap.size w z) (hs : z.ownsRow w.heap.size 4 1 (.slice (some ⟨gs, 0, none⟩) N N) N (sb N (sn ++ [nn]))) (ht : z.ownsRow w.heap.size 31 1 (.slice A m c) (todo K rs sn).length (u64s (todo K rs sn))) (hm : m = (todo K rs sn).length) (hbz : Below z.heap.size z z') (hp : z'.ownsRow z.heap.size 31 1 (.slice A2 n1 c2) n1 (u64s (itm K nn).ws)) (htd : todo K rs (sn ++ [nn]) = todo K rs sn ++ (itm K nn).ws) (hl : m + n1 ≤ 60100) :
    ∃ A3 c3 z3, (Builtin.append_ #[39, 39] 39 #[.slice A m c, .slice A2 n1 c2]).run Try.prog z' = .ok (.slice A3 (m + n1) c3) z3 ∧ Sm w z3 K rs N gs (sn ++ [nn]) (.slice A3 (m + n1) c3) := by
  obtain ⟨i0, hi, hy0, hy1, hy2⟩ := info_parts infoW
  have hs' := ownsRow_below hs hbz (fun r hr => (hs.lt r hr).2)
  have ht' := ownsRow_below ht hbz (fun r hr => (ht.lt r hr).2)
  have hb' := fbelow hb hbz
  rw [← hm] at ht'
  obtain ⟨v', z3, hrun, hR, hg, hat⟩ := run_append_any (P := Try.prog) z' w.heap.size 39 39 31 i0 _ 1 8 Try.underlying39 hi hy0 hy1 hy2 rfl (by decide) (.slice A m c) m _ ht' _ A2 n1 c2 _ (Reads.of_own hp) (u64s_one _) (by unfold maxLen; omega) (by omega) hb'.size
  obtain ⟨A3, c3, rfl, _, _⟩ := ownsRow_form hR
  refine ⟨A3, c3, z3, hrun, ⟨hb'.grown hg hb'.size (fun k hk => (ht'.lt k hk).1), ?_, ?_⟩⟩
  · exact ownsRow_keep hs' (F := fun b => (Value.slice A m c).ownBlock = some b) ((Keep.refl _ z').grown hg (fun k hk => .inl hk)) (fun r hr e => row_row_ne hs' ht' (by decide) r e hr)
  · rw [htd]
    have hn : n1 = (itm K nn).ws.length := by have := hp.1; unfold u64s at this; simpa using this.symm
    rw [List.length_append, ← hm, ← hn, show u64s (todo K rs sn ++ (itm K nn).ws) = u64s (todo K rs sn) ++ u64s (itm K nn).ws by unfold u64s; rw [List.map_append]]
    exact hR
set_option maxRecDepth 100000 in
set_option maxHeartbeats 1600000 in
theorem starts_any (gh g : Nat) (L : List ByteArray) (lim : Int) (K : List It) (rs : List Int) (w : World) (F : Nat → Prop) (h : Hp w F gh g L lim K) (A : Option Addr) (n c U : Nat) (hn : rs.length = n) (hUU : (hW K).length = U) (hr : Reads w w.heap.size 1 A n (u64s rs)) (hrs : ∀ u ∈ rs, U64 u ∧ may K L.length u = true) (hl1 : n ≤ 20) (hl2 : U ≤ 60000) (qs : List Int) (hrun : Run K 0 (addAll [] rs) qs) (hq : tot K qs = (hW K).length) (hqs : Ps K qs) :
    Calls Try.prog 48 #[.pointer (some ⟨gh, 0, none⟩), .slice A n c] w fun e w' => e = .returned (.bool true) ∧ Below w.heap.size w w' := by
  have HH := Lib.hid h
  obtain ⟨Ui, hUi⟩ : ∃ Ui : Int, (U : Int) = Ui := ⟨_, rfl⟩
  have HUS := Lib.hid (show ∀ wx, Below w.heap.size w wx → Calls Try.prog 17 #[.pointer (some ⟨gh, 0, none⟩)] wx (fun e w' => e = .returned (.int .i64 Ui) ∧ w' = wx) from fun wx hb => by
    have h1 := used_any gh g L lim K wx F (h.below hb)
    rwa [hUU, hUi] at h1)
  have HUI := Lib.hid hUi
  have hU0 : 0 ≤ Ui := by omega
  have hU6 : Ui ≤ 60000 := by omega
  have HALL := Lib.hid (fun sn i (hs : Sq K L.length rs sn i) (hi : i = (todo K rs sn).length) => hs.all hi hrun hq hqs)
  have HQ0 := Lib.hid (Sq.start (K := K) (a := L.length) hrs)
  have HR := Lib.hid hr; have HUU := Lib.hid hUU; have HNN := Lib.hid hn
  clear h hrun hq hqs hrs hr hUU hn hUi
  go_enter Try.func48, Try.ntmps48
  go_wp2_with fail
  refine (HUS.out w (Below.refl _ _)).mono ?_
  rintro e w1 ⟨rfl, h1⟩
  obtain rfl : w = w1 := h1.symm
  obtain ⟨w2, hmk, hse, hb2⟩ := seen_make w (U + 1) (by omega)
  have hmk' : (Instr.makeSlice 106 (.int .i64 (Ui + 1)) (.int .i64 (Ui + 1))).run Try.prog w = .ok (.slice (some ⟨w.heap.size, 0, none⟩) (U + 1) (U + 1)) w2 := by
    rw [← HUI.out, show (U : Int) + 1 = ((U + 1 : Nat) : Int) from by omega]
    exact hmk
  obtain ⟨N, hN⟩ : ∃ N, U + 1 = N := ⟨_, rfl⟩
  rw [hN] at hmk' hse
  have HN := Lib.hid hN
  clear hN
  obtain ⟨gs, hgs⟩ : ∃ gs, w.heap.size = gs := ⟨_, rfl⟩
  have HSE := Lib.hid hse; have HB2 := Lib.hid hb2
  clear hmk hse hb2
  rw [hgs] at hmk' HSE
  have HGS := Lib.hid hgs
  clear hgs
  go_wp2_with fail
  refine (copyW_any A c n rs w2 ((HR.out.below HB2.out).more HB2.out.size) (by omega)).mono ?_
  rintro e w3 ⟨A3, c3, rfl, ho3, hb3⟩
  have HI0 := Lib.hid (show Sm w w3 K rs N gs [] (.slice A3 n c3) from by
    have e : todo K rs [] = rs := by unfold todo; simp
    refine ⟨fbelow HB2.out hb3, ?_, ?_⟩
    · rw [HGS.out]
      exact ownsRow_below HSE.out hb3 (fun r hr => (HSE.out.lt r hr).2)
    · rw [e, HNN.out]
      exact ownsRow_base ho3 (fun r hr => by have := (ho3.lt r hr).1; have := HB2.out.size; omega))
  clear ho3 hb3 hmk'
  go_wp2_with fail
  go_loopw [8, 7, 6] (fun x s t wr => ∃ (i : Nat) (sn : List Int), x = .int .i64 (i : Int) ∧ s = .int .i64 (tot K sn : Int) ∧ Sq K L.length rs sn i ∧ Sm w wr K rs N gs sn t) (fun x _ _ _ => n + U + 1 - (intOf x).toNat)
  case atStart => exact ⟨0, [], rfl, rfl, HQ0.out, HI0.out⟩
  case round =>
    obtain ⟨i, sn, rfl, rfl, hsq, hsm⟩ := hrel
    clear HI0
    have hle := hsq.le
    have htt := tot_le hsq.ps
    have htl := todo_len K rs sn
    have hbd := HUU.out
    have hbn := HNN.out
    obtain ⟨sm, hsum⟩ : ∃ z : Int, (tot K sn : Int) = z := ⟨_, rfl⟩
    have hi0 : (0 : Int) ≤ (i : Int) := by omega
    by_cases hlt : i < (todo K rs sn).length
    · obtain ⟨ad, ct, m, u, k, nn, rfl, hm, him, hm6, hab, hcell, HUN, HBOX, hno, hyes⟩ := hsm.round HH.out HUU.out hsq hlt (by omega)
      have him' : (i : Int) < (m : Int) := by omega
      have him5 : (i : Int) < 100000 := by omega
      have HM := Lib.hid hm; have HSM := Lib.hid hsm; have HSQ := Lib.hid hsq; have HSUM := Lib.hid hsum; have HBD := Lib.hid (And.intro htl (And.intro htt (And.intro hbd hbn)))
      rw [hsum]
      clear hm hsm hsq hle htl htt hbd hbn hlt him hsum
      go_wp2_with fail
      refine (HUN.out _).mono ?_
      rintro e w7 ⟨rfl, hb7⟩
      have HS7 := Lib.hid (HSM.out.below hb7)
      have hcell' := (hb7.cell (p := ad.add i) (by rw [block_of_add]; exact hab)).trans hcell
      have hab' : ad.block < w7.heap.size := Nat.lt_of_lt_of_le hab hb7.size
      clear hb7 hcell hab
      by_cases hb : boxd u = true
      · obtain ⟨p, rfl, hpU, hin, hnot⟩ := hyes hb
        have hpi : (p : Int) < Ui := by have := HUI.out; omega
        have hpi1 : (p : Int) < (N : Int) := by have := HN.out; omega
        have hp0 : (0 : Int) ≤ (p : Int) := by omega
        have hpg : decide (Ui ≤ (p : Int)) = false := decide_eq_false (by omega)
        obtain ⟨hlook, hfz⟩ := HS7.out.look (p := p) (by have := HN.out; omega)
        rw [hb] at HBOX
        have HUS7 := Lib.hid (HUS.out w7 HS7.out.bl)
        have hgs7 := HS7.out.gs_.2
        clear hno hyes hb
        by_cases hs : (p : Int) ∈ sn
        · have HSK := Lib.hid (hin hs)
          rw [decide_eq_true hs] at hlook
          clear hin hnot hs
          go_wp2_with (first
            | (go_at_call 35; refine (HBOX.out _).mono ?_; rintro e w8 ⟨rfl, h8⟩; obtain rfl := h8.symm)
            | (go_at_call 17; refine HUS7.out.mono ?_; rintro e w8 ⟨rfl, h8⟩; obtain rfl := h8.symm)
            | fail)
          go_roundw
          case rel => exact ⟨i + 1, sn, by go_num, by rw [HSUM.out], HSK.out, HS7.out⟩
          case measure => have := HM.out; have := HBD.out; simp [intOf]; omega
        · obtain ⟨n1, HPT, hsq', htot, htd, hn64, htU⟩ := hnot hs
          rw [decide_eq_false hs] at hlook
          obtain ⟨z, hz, hzb, hzs, hzt⟩ := HS7.out.mark (p := p) (by have := HN.out; omega)
          have HSQ' := Lib.hid hsq'; have HTOT := Lib.hid htot; have HTD := Lib.hid htd; have HZ := Lib.hid (And.intro hzb (And.intro hzs hzt)); have HZE := Lib.hid hz
          have hzz : z.heap.size = w7.heap.size := by rw [hz]; simp [World.setCell]
          have hcz : (w7.setCell ⟨gs, p, none⟩ (.bool true)).cell? (ad.add i) = some (.int .u64 u) := by
            rw [World.cell?_setCell_other _ _ _ _ (fun e => by
              have h1 := congrArg Addr.block e
              rw [block_of_add] at h1
              exact row_row_ne HS7.out.seen HS7.out.td (by decide) ad.block rfl (by rw [show ad.block = gs from h1.symm]; rfl))]
            exact hcell'
          have hsm0 : 0 ≤ sm := by have := HSUM.out; omega
          have hsmU : sm ≤ 60020 := by have := HBD.out; have := HSUM.out; omega
          obtain ⟨nI, hnI⟩ : ∃ z : Int, (n1 : Int) = z := ⟨_, rfl⟩
          have hnI0 : 0 ≤ nI := by omega
          have hnI6 : nI ≤ 64 := by omega
          have HNI := Lib.hid hnI
          have HHI := Lib.hid (show m + n1 ≤ 60100 from by omega)
          clear hin hnot hs hsq' htot htd hz hzb hzs hzt hzz hnI hn64 htU
          go_wp2_with (first
            | (go_at_call 35; refine (HBOX.out _).mono ?_; rintro e w8 ⟨rfl, h8⟩; obtain rfl := h8.symm)
            | (go_at_call 17; refine HUS7.out.mono ?_; rintro e w8 ⟨rfl, h8⟩; obtain rfl := h8.symm)
            | fail)
          rw [← HZE.out]
          refine (HPT.out z HZ.out.1).mono ?_
          rintro e w8 ⟨A8, c8, rfl, ho8, hb8⟩
          obtain ⟨A9, c9, w9, hrun9, hsm9⟩ := Sm.push HZ.out.1 HZ.out.2.1 HZ.out.2.2 HM.out hb8 ho8 HTD.out HHI.out
          have HRUN9 := Lib.hid hrun9; have HSM9 := Lib.hid hsm9
          have hn0 : (0 : Int) ≤ (n1 : Int) := by omega
          have hn6 : (n1 : Int) ≤ 64 := by have := HNI.out; omega
          clear ho8 hb8 hrun9 hsm9 hcz hcell' hlook hfz hab'
          by_cases h9 : k = 9
          · have b9 : (k != 9) = false := by simp [h9]
            have HTT := Lib.hid (show (tot K (sn ++ [(p : Int)]) : Int) = sm + (n1 : Int) from by
              have h1 := HTOT.out
              rw [if_pos h9, HSUM.out] at h1
              omega)
            clear h9
            go_wp2_with (first
              | (at_builtin; refine wpList_append_run (o := ⟨some 90, _, _, _, _, _⟩) (.tmp 88) (.tmp 89) 39 _ _ _ HRUN9.out rfl rfl (by simp [Act.eval, Act.put]) (by simp [Act.eval, Act.put]) ?_)
              | fail)
            go_roundw
            case rel => exact ⟨i + 1, sn ++ [(p : Int)], by go_num, by rw [HTT.out], HSQ'.out, HSM9.out⟩
            case measure => have := HM.out; have := HBD.out; simp [intOf]; omega
          · have b9 : (k != 9) = true := by simp [h9]
            have HTT := Lib.hid (show (tot K (sn ++ [(p : Int)]) : Int) = sm + (n1 : Int) + 1 from by
              have h1 := HTOT.out
              rw [if_neg h9, HSUM.out] at h1
              omega)
            clear h9
            go_wp2_with (first
              | (at_builtin; refine wpList_append_run (o := ⟨some 90, _, _, _, _, _⟩) (.tmp 88) (.tmp 89) 39 _ _ _ HRUN9.out rfl rfl (by simp [Act.eval, Act.put]) (by simp [Act.eval, Act.put]) ?_)
              | fail)
            go_roundw
            case rel => exact ⟨i + 1, sn ++ [(p : Int)], by go_num, by rw [HTT.out], HSQ'.out, HSM9.out⟩
            case measure => have := HM.out; have := HBD.out; simp [intOf]; omega
      · have hbf : boxd u = false := by simpa using hb
        have HSK := Lib.hid (hno hbf)
        rw [hbf] at HBOX
        clear hno hyes hb hbf
        go_wp2_with (first
          | (go_at_call 35; refine (HBOX.out _).mono ?_; rintro e w8 ⟨rfl, h8⟩; obtain rfl := h8.symm)
          | fail)
        go_roundw
        case rel => exact ⟨i + 1, sn, by go_num, by rw [HSUM.out], HSK.out, HS7.out⟩
        case measure => have := HM.out; have := HBD.out; simp [intOf]; omega
    · have hi : i = (todo K rs sn).length := by omega
      have hfin := HALL.out sn i hsq hi
      have hsU : sm = (U : Int) := by omega
      obtain ⟨At, ct, rfl, _, _⟩ := ownsRow_form hsm.td
      obtain ⟨m, hm⟩ : ∃ m, (todo K rs sn).length = m := ⟨_, rfl⟩
      have HUS7 := Lib.hid (HUS.out _ hsm.bl)
      have HB := Lib.hid hsm.bl
      rw [hm, hsum, hsU, HUI.out]
      have him : (m : Int) ≤ (i : Int) := by omega
      clear hsm hsq hle htt htl hbd hbn hlt hi hfin hm hsum hsU
      go_wp2_with (first
        | (go_at_call 17; refine HUS7.out.mono ?_; rintro e w8 ⟨rfl, h8⟩; obtain rfl := h8.symm)
        | fail)
      go_ret
      exact ⟨ret1_b (by simp), HB.out⟩
end Go.Proofs.Ytnedjmjcbmoknaa.Hp
/- Plain: what roots are behind a collection. -/
namespace Go.Proofs.Ytnedjmjcbmoknaa.Hp
open Go.RowKit K Wd At Fl
set_option linter.unusedVariables false
set_option linter.unusedSimpArgs false

structure Done (H : List It) (a : Nat) (ws ps : List Int) : Prop where
  run : Run H 0 (addAll [] ws) ps
  ps_ : Ps H ps
  cl : Cl H ps
  mv : ∀ u ∈ ws, Mv H a ps u
theorem Done.of {H : List It} {a : Nat} {ws ps : List Int} (hw : Wf H a) (hm : ∀ u ∈ ws, U64 u ∧ may H a u = true) (h : Run H 0 (addAll [] ws) ps) : Done H a ws ps :=
  ⟨h, h.places hw (addAll_ps (Ps.nil H) (fun u hu => (hm u hu).2)), h.cl, fun u hu => ⟨(hm u hu).1, (hm u hu).2, fun hb => h.sub (addAll_mem hu hb)⟩⟩
section
variable {H : List It} {a : Nat} {ws ps : List Int}
theorem Done.may_ (h : Done H a ws ps) (hw : Wf H a) (hl : (hW H).length ≤ 16777216) : ∀ u ∈ ws.map (reloc H ps), U64 u ∧ may (col H ps) a u = true := fun u hu => by
  obtain ⟨v, hv, rfl⟩ := List.mem_map.1 hu
  exact ⟨reloc_u64 (h.mv v hv).1, (h.mv v hv).may_ hw.pos h.ps_ hl⟩
theorem Done.used (h : Done H a ws ps) : (hW (col H ps)).length ≤ (hW H).length := by rw [col_len]; exact tot_le h.ps_
theorem Done.inj (h : Done H a ws ps) (hw : Wf H a) (hl : (hW H).length ≤ 16777216) {u v : Int} (hu : u ∈ ws) (hv : v ∈ ws) : reloc H ps u = reloc H ps v ↔ u = v :=
  ⟨fun e => (h.mv u hu).inj hw.pos (h.mv v hv) h.ps_ hl e, fun e => by rw [e]⟩
theorem Done.rep (h : Done H a ws ps) (hw : Wf H a) (hl : (hW H).length ≤ 16777216) {L : List ByteArray} {t : Tm} {u : Int} (hu : u ∈ ws) (hr : Rep H L t u) : Rep (col H ps) L t (reloc H ps u) := hr.moved hw.pos h.ps_ h.cl hl (h.mv u hu).2.2
/-- All places of the new heap, from its roots. -/
theorem Done.reach (h : Done H a ws ps) (hw : Wf H a) (hl : (hW H).length ≤ 16777216) : ∃ qs, Run (col H ps) 0 (addAll [] (ws.map (reloc H ps))) qs ∧ tot (col H ps) qs = (hW (col H ps)).length ∧ Ps (col H ps) qs := by
  have h3 := h.run.img hw h.ps_ h.cl hl (fun _ h => h)
  have h4 := addAll_img (qs := []) hw h.ps_ hl (fun p hp => by cases hp) h.mv
  rw [List.map_nil] at h4
  rw [← h4] at h3
  refine ⟨_, h3, ?_, ?_⟩
  · show (hW (raw (col H ps) (ps.map fun p => (off H ps p : Int)))).length = _
    rw [raw_img hw h.ps_ (fun _ h => h)]
    rfl
  · refine ⟨?_, fun q hq => ?_⟩
    · rw [List.nodup_iff_pairwise_ne, List.pairwise_map]
      have hn := h.ps_.nd
      rw [List.nodup_iff_pairwise_ne] at hn
      refine List.Pairwise.imp_of_mem (fun {x y} hx hy hne e => ?_) hn
      exact hne (off_inj (H := H) (fun _ _ => trivial) (h.ps_.pos hw.pos) hx hy (by omega))
    · obtain ⟨p, hp, rfl⟩ := List.mem_map.1 hq
      exact ⟨_, itAt_col hw.pos h.ps_ hp⟩
end
end Go.Proofs.Ytnedjmjcbmoknaa.Hp
/- collected: a heap, collected for roots, is as it should be; by a contract. -/
namespace Go.Proofs.Ytnedjmjcbmoknaa.Hp
open Go.RowKit K At Wd Fl
set_option linter.unusedVariables false
set_option linter.unusedSimpArgs false

theorem u64_get {ws : List Int} {i : Nat} {v : Value} (h : (u64s ws)[i]? = some v) : ∃ u, ws[i]? = some u ∧ v = .int .u64 u := by
  unfold u64s at h
  rw [List.getElem?_map] at h
  cases hw : ws[i]? with
  | none => rw [hw] at h; cases h
  | some u => rw [hw] at h; injection h with h; exact ⟨u, rfl, h.symm⟩
/-- Two roots of one list and of another. -/
theorem pairs_same {A B : Option Addr} {n : Nat} {ws ls : List Int} {wr : World} {H : List It} {ps : List Int} (hl : ls = ws.map (reloc H ps)) (hinj : ∀ u v, u ∈ ws → v ∈ ws → (reloc H ps u = reloc H ps v ↔ u = v)) (h1 : Reads wr wr.heap.size 1 A n (u64s ws)) (h2 : Reads wr wr.heap.size 1 B n (u64s ls)) {i k : Nat} (hi : i < n) (hk : k < n) :
    ∃ a b x y x' y' c, A = some a ∧ B = some b ∧ wr.cell? (a.add i) = some (.int .u64 x) ∧ wr.cell? (a.add k) = some (.int .u64 y) ∧ wr.cell? (b.add i) = some (.int .u64 x') ∧ wr.cell? (b.add k) = some (.int .u64 y') ∧ (x == y) = c ∧ (x' == y') = c := by
  obtain ⟨a, v1, rfl, _, e1, c1⟩ := h1.at_ hi
  obtain ⟨a', v2, ea, _, e2, c2⟩ := h1.at_ hk
  injection ea with ea; subst ea
  obtain ⟨b, v3, rfl, _, e3, c3⟩ := h2.at_ hi
  obtain ⟨b', v4, eb, _, e4, c4⟩ := h2.at_ hk
  injection eb with eb; subst eb
  obtain ⟨x, hx, rfl⟩ := u64_get e1
  obtain ⟨y, hy, rfl⟩ := u64_get e2
  obtain ⟨x', hx', rfl⟩ := u64_get e3
  obtain ⟨y', hy', rfl⟩ := u64_get e4
  refine ⟨a, b, x, y, x', y', _, rfl, rfl, c1, c2, c3, c4, rfl, ?_⟩
  rw [hl, List.getElem?_map, hx] at hx'
  rw [hl, List.getElem?_map, hy] at hy'
  injection hx' with hx'
  injection hy' with hy'
  have := hinj x y (List.mem_of_getElem? hx) (List.mem_of_getElem? hy)
  rw [hx', hy'] at this
  by_cases e : x = y
  · rw [this.2 e, e, beq_self_eq_true, beq_self_eq_true]
  · have h' : ¬ x' = y' := fun h => e (this.1 h)
    rw [show (x == y) = false from by simpa using e, show (x' == y') = false from by simpa using h']
set_option maxRecDepth 100000 in
set_option maxHeartbeats 1600000 in
theorem collected_any (gh g : Nat) (L : List ByteArray) (lim : Int) (H : List It) (w : World) (F G : Nat → Prop) (h : Hp w F gh g L lim H) (A1 A2 : Option Addr) (n c1 c2 : Nat) (ws : List Int) (ts : List Tm) (hr : Reads w w.heap.size 1 A1 n (u64s ws)) (hA : ∀ a, A1 = some a → ¬ F a.block) (hT : TsAt w G A2 ts) (hG : ∀ b, G b → b < w.heap.size ∧ ¬ F b) (hws : ws.length = n) (hts : ts.length = n) (hrep : ∀ (i : Nat) (t : Tm) (u : Int), ts[i]? = some t → ws[i]? = some u → Rep H L t u) (hwd : ∀ t ∈ ts, wds t ≤ 65536) (hn : n ≤ 20) (hused : (hW H).length ≤ 60000) :
    Calls Try.prog 27 #[.pointer (some ⟨gh, 0, none⟩), .slice A1 n c1, .slice A2 n c2] w fun e w' => e = .returned (.bool true) ∧ Keep F w w' := by
  have hmay : ∀ u ∈ ws, U64 u ∧ may H L.length u = true := fun u hu => by
    obtain ⟨i, hi, rfl⟩ := List.getElem_of_mem hu
    have h1 := hrep i (ts[i]'(by omega)) _ (List.getElem?_eq_getElem (by omega)) (List.getElem?_eq_getElem hi)
    exact ⟨h1.u64.1, h1.may⟩
  have hHB := h.1
  have hlim : (hW H).length ≤ 16777216 := by omega
  obtain ⟨U0, hU0⟩ : ∃ z : Int, ((hW H).length : Int) = z := ⟨_, rfl⟩
  have HUS := Lib.hid (hU0 ▸ used_any gh g L lim H w F h)
  have HCO := Lib.hid (hws ▸ collect_any gh g L lim H ws w F h A1 c1 (by rw [hws]; exact hr) hmay (by omega))
  have HDN := Lib.hid (fun ps hrun => Done.of (ps := ps) hHB.wf hmay hrun)
  have HW := Lib.hid (And.intro hHB.wf (And.intro hlim (And.intro hws hts)))
  have HR := Lib.hid hr; have HA := Lib.hid hA; have HT := Lib.hid hT; have HG := Lib.hid hG; have HREP := Lib.hid hrep; have HWD := Lib.hid hwd; have HU0 := Lib.hid (And.intro hU0 hused); have HH := Lib.hid h
  clear h hr hA hT hG hrep hwd hws hts hmay hHB hlim hU0 hused
  go_enter Try.func27, Try.ntmps27
  go_wp2_with fail
  refine HUS.out.mono ?_
  rintro e w1 ⟨rfl, h1⟩
  obtain rfl : w = w1 := h1.symm
  go_wp2_with fail
  refine HCO.out.mono ?_
  rintro e w2 ⟨ps, A3, c3, F', hrun, rfl, ho3, hno3, hH2, hF2, hk2⟩
  rw [HW.out.2.2.1] at ho3 hno3
  rw [HW.out.2.2.1]
  have hdn := HDN.out ps hrun
  obtain ⟨K, hK⟩ : ∃ K, col H ps = K := ⟨_, rfl⟩
  obtain ⟨ls, hls⟩ : ∃ ls, ws.map (reloc H ps) = ls := ⟨_, rfl⟩
  have hmay2 := hdn.may_ HW.out.1 HW.out.2.1
  have hused2 := hdn.used
  obtain ⟨qs, hq1, hq2, hq3⟩ := hdn.reach HW.out.1 HW.out.2.1
  have hinj := fun u v hu hv => hdn.inj HW.out.1 HW.out.2.1 (u := u) (v := v) hu hv
  have hrep2 : ∀ (i : Nat) (t : Tm) (u : Int), ts[i]? = some t → (ws.map (reloc H ps))[i]? = some u → Rep (col H ps) L t u := fun i t u ht hu => by
    rw [List.getElem?_map] at hu
    cases hw : ws[i]? with
    | none => rw [hw] at hu; cases hu
    | some v =>
      rw [hw] at hu
      injection hu with hu
      subst hu
      exact hdn.rep HW.out.1 HW.out.2.1 (List.mem_of_getElem? hw) (HREP.out i t v ht hw)
  rw [hls] at ho3 hmay2 hq1 hrep2
  rw [hK] at hH2 hmay2 hused2 hq1 hq2 hq3 hrep2
  have hll : ls.length = n := by rw [← hls, List.length_map]; exact HW.out.2.2.1
  obtain ⟨U, hU⟩ : ∃ U, (hW K).length = U := ⟨_, rfl⟩
  obtain ⟨U1, hU1⟩ : ∃ z : Int, (U : Int) = z := ⟨_, rfl⟩
  have hle : U1 ≤ U0 := by have := HU0.out.1; omega
  have HUS2 := Lib.hid (show ∀ wx, Below w2.heap.size w2 wx → Calls Try.prog 17 #[.pointer (some ⟨gh, 0, none⟩)] wx (fun e w' => e = .returned (.int .i64 U1) ∧ w' = wx) from fun wx hb => by
    have h1 := used_any gh g L lim K wx F' (hH2.below hb)
    rwa [hU, hU1] at h1)
  have HST := Lib.hid (starts_any gh g L lim K ls w2 F' hH2 A3 n c3 U hll hU (Reads.of_own ho3) hmay2 hn (by have := HU0.out.2; omega) qs hq1 hq2 hq3)
  have HAGAIN := Lib.hid (show ∀ ps2, Run K 0 (addAll [] ls) ps2 → ls = ls.map (reloc K ps2) ∧ hW (col K ps2) = hW K from fun ps2 h2 => by
    have h1 := col_again HW.out.1 HW.out.2.1 (fun u hu => ⟨(hdn.mv u hu).1, (hdn.mv u hu).2.1⟩) hrun (ps2 := ps2) (by rw [hK, hls]; exact h2)
    rwa [hK, hls] at h1)
  have ht2 := HT.out.keep (w' := w2) (fun p hp => hk2.cell (HG.out _ hp).1 (HG.out _ hp).2)
  have hr2 : Reads w2 w2.heap.size 1 A1 n (u64s ws) := Reads.keepA HR.out (Nat.le_refl _) hk2 HA.out
  have HO3 := Lib.hid ho3; have HNO3 := Lib.hid hno3; have HH2 := Lib.hid hH2; have HF2 := Lib.hid hF2; have HK2 := Lib.hid hk2; have HT2 := Lib.hid ht2; have HR2 := Lib.hid hr2; have HM2 := Lib.hid hmay2; have HINJ := Lib.hid hinj; have HREP2 := Lib.hid hrep2; have HLL := Lib.hid hll; have HLS := Lib.hid hls; have HUU := Lib.hid (And.intro hU (show U ≤ 60000 by have := HU0.out.2; omega))
  have HGB := Lib.hid (show ∀ b, G b → b < w2.heap.size from fun b hb => Nat.lt_of_lt_of_le (HG.out b hb).1 hk2.size)
  clear hrun ho3 hno3 hH2 hF2 hk2 hdn hmay2 hused2 hq1 hq2 hq3 hinj hrep2 hll hls hU hU1 hK ht2 hr2 HCO HDN
  go_wp2_with fail
  refine (HUS2.out w2 (Below.refl _ _)).mono ?_
  rintro e w3 ⟨rfl, h3⟩
  obtain rfl : w2 = w3 := h3.symm
  go_wp2_with fail
  refine HST.out.mono ?_
  rintro e w3 ⟨rfl, hb3⟩
  have HB3 := Lib.hid hb3
  clear hb3
  have hn0 : (0 : Int) ≤ (n : Int) := by omega
  go_wp2_with fail
  go_loopw [10] (fun x wr => ∃ i : Nat, i ≤ n ∧ x = .int .i64 (i : Int) ∧ Below w2.heap.size w2 wr) (fun x _ => n - (intOf x).toNat)
  case atStart => exact ⟨0, Nat.zero_le _, rfl, HB3.out⟩
  case round =>
    obtain ⟨i, hi, rfl, hb⟩ := hrel
    have HB := Lib.hid hb
    clear hb
    have hi0 : (0 : Int) ≤ (i : Int) := by omega
    by_cases hlt : i < n
    · have hin : (i : Int) < (n : Int) := by omega
      go_wp2_with fail
      go_loopw [11] (fun x wr => ∃ k : Nat, k ≤ i ∧ x = .int .i64 (k : Int) ∧ Below w2.heap.size w2 wr) (fun x _ => i - (intOf x).toNat)
      case atStart => exact ⟨0, Nat.zero_le _, rfl, HB.out⟩
      case round =>
        obtain ⟨k, hk, rfl, hb⟩ := hrel
        have HBk := Lib.hid hb
        clear hb
        have hk0 : (0 : Int) ≤ (k : Int) := by omega
        by_cases hltk : k < i
        · obtain ⟨a, b, x, y, x', y', cc, rfl, rfl, d1, d2, d3, d4, e1, e2⟩ := pairs_same HLS.out.symm HINJ.out ((HR2.out.below HBk.out).more HBk.out.size) (((Reads.of_own HO3.out).below HBk.out).more HBk.out.size) hlt (Nat.lt_trans hltk hlt)
          have hki : (k : Int) < (i : Int) := by omega
          have hkn : (k : Int) < (n : Int) := by omega
          go_wp2_with fail
          go_quiet (fail)
          go_wp2_with fail
          go_roundw
          case rel => exact ⟨k + 1, by omega, by go_num, fdrewN HBk.out _⟩
          case measure => simp [intOf]; omega
        · obtain rfl : k = i := by omega
          obtain ⟨u, hu⟩ : ∃ u, ls[k]? = some u := ⟨_, List.getElem?_eq_getElem (by rw [HLL.out]; exact hlt)⟩
          obtain ⟨t, ht⟩ : ∃ t, ts[k]? = some t := ⟨_, List.getElem?_eq_getElem (by rw [HW.out.2.2.2]; exact hlt)⟩
          obtain ⟨ad, uv, rfl, hab, huv, hcell⟩ := (((Reads.of_own HO3.out).below HBk.out).more HBk.out.size).at_ (k := k) hlt
          obtain ⟨u', hu', rfl⟩ := u64_get huv
          obtain rfl : u = u' := by rw [hu] at hu'; injection hu'
          have htr := HT2.out.under HBk.out HGB.out
          obtain ⟨bt, ot, At, ct, rfl, hbt, q0, q1, q2, q3, ok, hl⟩ := htr.at_ ht
          have hta : TA _ t (.agg #[.int .i64 t.k, .int .i64 t.n, .string t.s, .slice At t.l.length ct]) := TAt.of ok (hl.mono (fun b hb => Nat.lt_of_lt_of_le (HGB.out b hb) HBk.out.size))
          have HGT := Lib.hid (fun wx (hb : Below w2.heap.size w2 wx) (hta : TA wx t (.agg #[.int .i64 t.k, .int .i64 t.n, .string t.s, .slice At t.l.length ct])) => got_any gh g L lim K t t u _ wx F' (HH2.out.below hb) (HREP2.out k t u ht hu) (HWD.out t (List.mem_of_getElem? ht)) hta)
          have HTA := Lib.hid hta
          clear hu ht huv hu' htr hta ok hl hbt
          go_wp2_with fail
          go_region_with (go_at_call 11; refine (HGT.out _ (btodrew HBk.out) (HTA.out.drew)).mono ?_; rintro e w7 ⟨he, hb7⟩; rw [eqT_self] at he; subst he; have HB7 := Lib.hid (fbelow HBk.out (bundrew hb7)); clear hb7)
          all_goals
            go_wp2_with fail
            go_roundw
            case rel => exact ⟨k + 1, by omega, by go_num, HB7.out⟩
            case measure => simp [intOf]; omega
    · obtain rfl : i = n := by omega
      go_wp2_with fail
      refine (words_any gh g L lim K _ F' (HH2.out.below HB.out)).mono ?_
      rintro e w5 ⟨A5, c5, rfl, ho5, hb5⟩
      have hb25 := fbelow HB.out hb5
      have HO5 := Lib.hid ho5; have HB5 := Lib.hid hb25
      have HCO := Lib.hid (HLL.out ▸ collect_any gh g L lim K ls w5 F' (HH2.out.below hb25) A3 c3 (by rw [HLL.out]; exact ((Reads.of_own HO3.out).below hb25).more hb25.size) HM2.out (by rw [HLL.out]; omega))
      rw [HUU.out.1]
      clear ho5 hb5 hb25
      go_wp2_with fail
      refine HCO.out.mono ?_
      rintro e w6 ⟨ps2, A6, c6, F6, hrun2, rfl, ho6, hno6, hH6, hF6, hk6⟩
      obtain ⟨e1, e2⟩ := HAGAIN.out ps2 hrun2
      rw [← e1] at ho6
      rw [HLL.out] at ho6 ⊢
      have hr3 : Reads w6 w6.heap.size 1 A3 i (u64s ls) := Reads.keepA (((Reads.of_own HO3.out).below HB5.out).more HB5.out.size) (Nat.le_refl _) hk6 (fun a ha hf => HNO3.out a.block (by subst ha; rfl) hf)
      have HSW := Lib.hid (HLL.out ▸ sameWords_yes A6 A3 c6 c3 _ _ ls w6 (by rw [HLL.out]; exact Reads.of_own ho6) (by rw [HLL.out]; exact hr3) (by rw [HLL.out]; omega))
      have hr5 : Reads w6 w6.heap.size 1 A5 U (u64s (hW K)) := by
        have h5 := HO5.out
        rw [HUU.out.1] at h5
        refine Reads.keepA (Reads.of_own h5) (Nat.le_refl _) hk6 (fun a ha hf => ?_)
        subst ha
        have h7 := (h5.lt a.block rfl).1
        have h8 := HH2.out.lt _ hf
        have h9 := HB.out.size
        omega
      have HR5 := Lib.hid hr5; have HH6 := Lib.hid hH6; have HK6 := Lib.hid hk6; have HE2 := Lib.hid e2
      clear hrun2 ho6 hno6 hH6 hF6 hk6 e1 e2 hr3 hr5 HCO
      go_wp2_with fail
      refine HSW.out.mono ?_
      rintro e w7 ⟨rfl, n7, h7⟩
      have hb7 : Below w6.heap.size w6 w7 := by rw [h7]; exact fdrewN (Below.refl _ _) _
      have HB7 := Lib.hid hb7
      clear h7 hb7
      go_wp2_with fail
      refine (words_any gh g L lim _ _ F6 (HH6.out.below HB7.out)).mono ?_
      rw [HE2.out, HUU.out.1]
      rintro e w8 ⟨A8, c8, rfl, ho8, hb8⟩
      have HB8 := Lib.hid (fbelow HB7.out hb8)
      have HSW2 := Lib.hid (HUU.out.1 ▸ sameWords_yes A8 A5 c8 c5 _ _ (hW K) w8 (by rw [HUU.out.1]; exact Reads.of_own ho8) (by rw [HUU.out.1]; exact (HR5.out.below HB8.out).more HB8.out.size) (by rw [HUU.out.1]; have := HUU.out.2; omega))
      clear ho8 hb8
      go_wp2_with fail
      refine HSW2.out.mono ?_
      rintro e w9 ⟨rfl, n9, h9⟩
      have HB9 := Lib.hid (show Below w6.heap.size w6 w9 from fbelow HB8.out (by rw [h9]; exact fdrewN (Below.refl _ _) _))
      clear h9
      go_wp2_with fail
      go_ret
      refine ⟨rfl, ?_⟩
      have hs := HK2.out.size
      refine ((HK2.out.trans (Keep.new (F := F) HB5.out) (fun i hi hf => hf)).trans HK6.out (fun b hb hf => ?_)).trans (Keep.new (F := F) HB9.out) (fun i hi hf => hf)
      rcases HF2.out b hf with e | e
      · exact e
      · omega
end Go.Proofs.Ytnedjmjcbmoknaa.Hp
/- A heap and four rows beside it: words and terms. -/
namespace Go.Proofs.Ytnedjmjcbmoknaa.Hp
open Go.RowKit K At Wd Fl
set_option linter.unusedVariables false
set_option linter.unusedSimpArgs false

/-- A row of terms that has nothing to do with X. -/
def Ro (w : World) (B : Nat) (X : Nat → Prop) (v : Value) (l : List Tm) : Prop := TRow w B (fun b => ¬ X b) v l ∧ ∀ r, v.ownBlock = some r → ¬ X r
def Xs (F : Nat → Prop) (v1 v2 v3 : Value) (b : Nat) : Prop := F b ∨ v1.ownBlock = some b ∨ v2.ownBlock = some b ∨ v3.ownBlock = some b
section
variable {w w' : World} {B n : Nat} {X X' K : Nat → Prop} {v : Value} {l : List Tm} {xs : List Int}
theorem Ro.own (h : Ro w B X v l) : ∃ A c, v = .slice A l.length c := by
  obtain ⟨A, c, e, _⟩ := h.1.form
  exact ⟨A, c, e⟩
theorem Ro.lt (h : Ro w B X v l) : ∀ r, v.ownBlock = some r → B ≤ r ∧ r < w.heap.size := by
  obtain ⟨⟨G, vs, hV, hG, hR⟩, _⟩ := h
  exact hR.lt
theorem Ro.step (h : Ro w B X v l) (hk : Keep K w w') (hK : ∀ b, b < w.heap.size → K b → X b) (hX : ∀ b, X' b → X b ∨ w.heap.size ≤ b) : Ro w' B X' v l := by
  obtain ⟨⟨G, vs, hV, hG, hR⟩, ho⟩ := h
  refine ⟨⟨G, vs, hV.keep fun p hp => hk.cell (hG _ hp).1 (fun hb => (hG _ hp).2.1 (hK _ (hG _ hp).1 hb)), fun b hb => ⟨Nat.lt_of_lt_of_le (hG b hb).1 hk.size, fun hx => ?_, (hG b hb).2.2⟩, ownsRow_keep hR hk (fun r hr hb => ho r hr (hK _ (hR.lt r hr).2 hb))⟩, fun r hr hx => ?_⟩
  · rcases hX b hx with e | e
    · exact (hG b hb).2.1 e
    · have := (hG b hb).1; omega
  · rcases hX r hx with e | e
    · exact ho r hr e
    · have := (hR.lt r hr).2; omega
theorem Fo.step (h : Fo w X B v n xs) (hk : Keep K w w') (hK : ∀ b, b < w.heap.size → K b → X b) (hX : ∀ b, X' b → X b ∨ w.heap.size ≤ b) : Fo w' X' B v n xs :=
  ⟨ownsRow_keep h.1 hk (fun r hr hb => h.2 r hr (hK _ (h.1.lt r hr).2 hb)), fun r hr hx => by
    rcases hX r hx with e | e
    · exact h.2 r hr e
    · have := (h.1.lt r hr).2; omega⟩
theorem Ro.nil (w : World) (B : Nat) (X : Nat → Prop) : Ro w B X (.slice none 0 0) [] := ⟨TRow.none_ _ _ _, fun r h => by simp [Value.ownBlock] at h⟩
theorem Fo.nil (w : World) (B : Nat) (X : Nat → Prop) : Fo w X B (.slice none 0 0) 0 [] := ⟨World.ownsRow_nil _ _ _ _, fun r h => by simp [Value.ownBlock] at h⟩
/-- A term of the row: its cells, itself. -/
theorem Ro.at_ (h : Ro w B X v l) {i : Nat} {t : Tm} (ht : l[i]? = some t) : ∃ ad o A c cv, v = .slice (some ⟨ad, o, none⟩) l.length cv ∧ ad < w.heap.size ∧ w.cell? ⟨ad, o + i * 4, none⟩ = some (.int .i64 t.k) ∧ w.cell? ⟨ad, o + i * 4 + 1, none⟩ = some (.int .i64 t.n) ∧ w.cell? ⟨ad, o + i * 4 + 2, none⟩ = some (.string t.s) ∧ w.cell? ⟨ad, o + i * 4 + 3, none⟩ = some (.slice A t.l.length c) ∧
    ∃ G, TAt w G t (.agg #[.int .i64 t.k, .int .i64 t.n, .string t.s, .slice A t.l.length c]) ∧ ∀ b, G b → b < w.heap.size ∧ ¬ X b ∧ v.ownBlock ≠ some b := by
  obtain ⟨⟨G, vs, hV, hG, hR⟩, ho⟩ := h
  obtain ⟨A0, cv, rfl, _, _⟩ := ownsRow_form hR
  have hs := (hV.mono (G := fun b => G b ∨ (Value.slice A0 l.length cv).ownBlock = some b) (fun b hb => .inl hb)).slot hR rfl (fun r hr => .inr hr)
  obtain ⟨x, hx, htx, _⟩ := hV.at_ ht
  obtain ⟨b, o, A', c', hA, hb, q0, q1, q2, q3, ok, hl⟩ := hs.at_ ht
  have hti := htx.inv
  obtain ⟨A2, c2, rfl, ok2, hts2⟩ := hti
  -- the value in the row is the one that is read
  obtain ⟨v1, hv1, _, hcell⟩ := hV.at_ ht
  rw [hx] at hv1
  injection hv1 with hv1
  subst hv1
  have hj := hcell 3 (by omega)
  have hown : ∀ j u, (flat vs)[j]? = some u → w.cell? ((⟨b, o, none⟩ : Addr).add j) = some u := fun j u hu => by
    subst hA
    rcases hR.2 with ⟨e, _⟩ | ⟨g, cap, cur, e, hg, hh, h1, h2, h3⟩
    · cases e
    · exact hR.cells (g := b) (by injection e with e; injection e with e; injection e with e1 e2; subst e1 e2; rfl) j u hu |> fun h => by
        injection e with e
        injection e with e
        injection e with e1 e2
        subst e1 e2
        exact h
  have h3 : w.cell? ((⟨b, o, none⟩ : Addr).add (i * 4 + 3)) = some (.slice A2 t.l.length c2) := hown _ _ (by rw [hj]; rfl)
  have h3' : w.cell? ⟨b, o + i * 4 + 3, none⟩ = some (.slice A2 t.l.length c2) := by
    rw [← h3, add_plain', Nat.add_assoc]
  refine ⟨b, o, A2, c2, cv, by rw [hA], ?_, q0, q1, q2, h3', G, htx, hG⟩
  exact World.block_lt_of_cell? _ _ q0
end
/-- One more term in a row. -/
theorem Ro.push {w : World} {B : Nat} {X Gx : Nat → Prop} {v : Value} {l : List Tm} (h : Ro w B X v l) {t : Tm} {k n : Int} {s : ByteArray} {A : Option Addr} {m c : Nat} (ht : TAt w Gx t (.agg #[.int .i64 k, .int .i64 n, .string s, .slice A m c])) (hG : ∀ b, Gx b → b < w.heap.size ∧ ¬ X b ∧ v.ownBlock ≠ some b) (hl : l.length < 1000000) (hB : B ≤ w.heap.size) (hX : ∀ b, X b → b < w.heap.size) :
    ∃ A' c' w3, (Builtin.append_ #[26, 26] 26 #[v, .slice (some ⟨w.heap.size, 0, none⟩) 1 1]).run Try.prog (w.alloc (.cells #[.int .i64 k, .int .i64 n, .string s, .slice A m c] 28)) = .ok (.slice A' (l.length + 1) c') w3 ∧
      Ro w3 B X (.slice A' (l.length + 1) c') (l ++ [t]) ∧ Keep (fun b => v.ownBlock = some b) w w3 ∧ (∀ r, (Value.slice A' (l.length + 1) c').ownBlock = some r → v.ownBlock = some r ∨ w.heap.size ≤ r) := by
  obtain ⟨⟨G, vs, hV, hGG, hR⟩, ho⟩ := h
  obtain ⟨i0, hi, hy0, hy1, hy2⟩ := info_parts infoT
  obtain ⟨v3, w3, run3, hR3, hg3, _, hat3⟩ := run_append_own_at (P := Try.prog) (w.alloc (.cells #[.int .i64 k, .int .i64 n, .string s, .slice A m c] 28)) B 26 26 28 i0 _ 4 56 Try.underlying26 hi hy0 hy1 hy2 rfl (by decide) v l.length _ (hR.alloc _) ⟨w.heap.size, 0, none⟩ 1 1 [.int .i64 k, .int .i64 n, .string s, .slice A m c] rfl (cells4_new w _ _ _ _ _) (one4 _ _ _ _ _ _) (by unfold maxLen; omega) (by omega) (by simp; omega)
  obtain ⟨A5, c5, rfl, _, _⟩ := ownsRow_form hR3
  have hT := TRow.snoc (Q := fun b => ¬ X b) hV hGG ht hG hg3 hR3 hat3
  have hk : Keep (fun b => v.ownBlock = some b) w w3 := ((Keep.refl (fun b => v.ownBlock = some b) w).alloc _).grown hg3 (fun k hk => .inl hk)
  have hnew : ∀ r, (Value.slice A5 (l.length + 1) c5).ownBlock = some r → v.ownBlock = some r ∨ w.heap.size ≤ r := fun r hr => by
    rcases hat3 with e | e
    · rw [e] at hr; exact .inl hr
    · rw [e] at hr; injection hr with hr; exact .inr (by simp at hr; omega)
  refine ⟨A5, c5, w3, run3, ⟨hT, fun r hr hx => ?_⟩, hk, hnew⟩
  rcases hnew r hr with e | e
  · exact ho r e hx
  · have := hX r hx; omega
/-- One more word in a row. -/
theorem Fo.push {w : World} {B n : Nat} {X : Nat → Prop} {v : Value} {xs : List Int} (h : Fo w X B v n xs) (y : Int) (hl : n < 1000000) (hB : B ≤ w.heap.size) (hX : ∀ b, X b → b < w.heap.size) :
    ∃ A' c' w3, (Builtin.append_ #[39, 39] 39 #[v, .slice (some ⟨w.heap.size, 0, none⟩) 1 1]).run Try.prog (w.alloc (.cells #[.int .u64 y] 31)) = .ok (.slice A' (n + 1) c') w3 ∧
      Fo w3 X B (.slice A' (n + 1) c') (n + 1) (xs ++ [y]) ∧ Keep (fun b => v.ownBlock = some b) w w3 ∧ (∀ r, (Value.slice A' (n + 1) c').ownBlock = some r → v.ownBlock = some r ∨ w.heap.size ≤ r) := by
  obtain ⟨i0, hi, hy0, hy1, hy2⟩ := info_parts infoW
  obtain ⟨v', w2, hrun, hR, hg, hat⟩ := run_append_any (P := Try.prog) (w.alloc (.cells #[.int .u64 y] 31)) B 39 39 31 i0 _ 1 8 Try.underlying39 hi hy0 hy1 hy2 rfl (by decide) v n (u64s xs) (h.1.alloc _) _ (some ⟨w.heap.size, 0, none⟩) 1 1 (u64s [y]) (one_reads w y) (u64s_one _) (by unfold maxLen; omega) (by omega) (by simp; omega)
  rw [show u64s xs ++ u64s [y] = u64s (xs ++ [y]) by unfold u64s; rw [List.map_append]] at hR
  obtain ⟨A, c, rfl, _, _⟩ := ownsRow_form hR
  have hk : Keep (fun b => v.ownBlock = some b) w w2 := ((Keep.refl (fun b => v.ownBlock = some b) w).alloc _).grown hg (fun k hk => .inl hk)
  have hnew : ∀ r, (Value.slice A (n + 1) c).ownBlock = some r → v.ownBlock = some r ∨ w.heap.size ≤ r := fun r hr => by
    rcases hat with e | e
    · rw [e] at hr; exact .inl hr
    · rw [e] at hr; injection hr with hr; exact .inr (by simp at hr; omega)
  refine ⟨A, c, w2, hrun, ⟨hR, fun r hr hx => ?_⟩, hk, hnew⟩
  rcases hnew r hr with e | e
  · exact h.2 r e hx
  · have := hX r hx; omega
/-- The heap, two rows of words, two of terms. -/
structure HM (W wr : World) (F : Nat → Prop) (gh g : Nat) (L : List ByteArray) (H : List It) (all ws : List Int) (terms ts : List Tm) (va vt vw vs : Value) : Prop where
  hp : Hp wr F gh g L 100000 H
  fW : ∀ k, F k → W.heap.size ≤ k
  bl : Below W.heap.size W wr
  al : Fo wr (Xs F vt vw vs) W.heap.size va all.length all
  tm : Ro wr W.heap.size (Xs F va vw vs) vt terms
  wl : Fo wr (Xs F va vt vs) W.heap.size vw ws.length ws
  tl : Ro wr W.heap.size (Xs F va vt vw) vs ts
section
variable {W wr w' : World} {F : Nat → Prop} {gh g : Nat} {L : List ByteArray} {H : List It} {all ws : List Int} {terms ts : List Tm} {va vt vw vs : Value}
theorem HM.swap (h : HM W wr F gh g L H all ws terms ts va vt vw vs) : HM W wr F gh g L H ws all ts terms vw vs va vt := by
  have e : ∀ {v1 v2 v3 v4 v5 v6 : Value}, (∀ b, Xs F v1 v2 v3 b → Xs F v4 v5 v6 b) → True := fun _ => trivial
  refine ⟨h.hp, h.fW, h.bl, ?_, ?_, ?_, ?_⟩
  · exact h.wl.step (Keep.refl (fun _ => False) _) (fun _ _ h => h.elim) (fun b hb => .inl (by unfold Xs at *; rcases hb with e | e | e | e; exact .inl e; exact .inr (.inr (.inr e)); exact .inr (.inl e); exact .inr (.inr (.inl e))))
  · exact h.tl.step (Keep.refl (fun _ => False) _) (fun _ _ h => h.elim) (fun b hb => .inl (by unfold Xs at *; rcases hb with e | e | e | e; exact .inl e; exact .inr (.inr (.inr e)); exact .inr (.inl e); exact .inr (.inr (.inl e))))
  · exact h.al.step (Keep.refl (fun _ => False) _) (fun _ _ h => h.elim) (fun b hb => .inl (by unfold Xs at *; rcases hb with e | e | e | e; exact .inl e; exact .inr (.inr (.inl e)); exact .inr (.inr (.inr e)); exact .inr (.inl e)))
  · exact h.tm.step (Keep.refl (fun _ => False) _) (fun _ _ h => h.elim) (fun b hb => .inl (by unfold Xs at *; rcases hb with e | e | e | e; exact .inl e; exact .inr (.inr (.inl e)); exact .inr (.inr (.inr e)); exact .inr (.inl e)))
theorem HM.below (h : HM W wr F gh g L H all ws terms ts va vt vw vs) (hb : Below wr.heap.size wr w') : HM W w' F gh g L H all ws terms ts va vt vw vs := by
  have hk : Keep (fun _ => False) wr w' := Keep.new hb
  exact ⟨h.hp.below hb, h.fW, fbelow h.bl hb, h.al.step hk (fun _ _ h => h.elim) (fun _ h => .inl h), h.tm.step hk (fun _ _ h => h.elim) (fun _ h => .inl h), h.wl.step hk (fun _ _ h => h.elim) (fun _ h => .inl h), h.tl.step hk (fun _ _ h => h.elim) (fun _ h => .inl h)⟩
theorem xs_lt {w : World} {F : Nat → Prop} {v1 v2 v3 : Value} (h0 : ∀ b, F b → b < w.heap.size) (h1 : ∀ r, v1.ownBlock = some r → r < w.heap.size) (h2 : ∀ r, v2.ownBlock = some r → r < w.heap.size) (h3 : ∀ r, v3.ownBlock = some r → r < w.heap.size) : ∀ b, Xs F v1 v2 v3 b → b < w.heap.size := fun b hb => by
  rcases hb with e | e | e | e
  · exact h0 b e
  · exact h1 b e
  · exact h2 b e
  · exact h3 b e
/-- The heap has turned. -/
theorem HM.moved (h : HM W wr F gh g L H all ws terms ts va vt vw vs) {L' : List ByteArray} {H' : List It} (hm : HMoved wr F gh g L' 100000 H' w') : ∃ F', HM W w' F' gh g L' H' all ws terms ts va vt vw vs := by
  obtain ⟨F', h1, h2, h3⟩ := hm
  have hs := h.bl.size
  have hx : ∀ {v1 v2 v3 : Value} (b : Nat), Xs F' v1 v2 v3 b → Xs F v1 v2 v3 b ∨ wr.heap.size ≤ b := fun b hb => by
    rcases hb with e | e | e | e
    · rcases h2 b e with e | e
      · exact .inl (.inl e)
      · exact .inr e
    · exact .inl (.inr (.inl e))
    · exact .inl (.inr (.inr (.inl e)))
    · exact .inl (.inr (.inr (.inr e)))
  exact ⟨F', h1, fun k hk => by
    rcases h2 k hk with e | e
    · exact h.fW k e
    · omega, Keep.below h.bl h3 hs (fun i hi hf => by have := h.fW i hf; omega), h.al.step h3 (fun b _ hf => .inl hf) hx, h.tm.step h3 (fun b _ hf => .inl hf) hx, h.wl.step h3 (fun b _ hf => .inl hf) hx, h.tl.step h3 (fun b _ hf => .inl hf) hx⟩
/-- One more word in the first row. -/
theorem HM.push (h : HM W wr F gh g L H all ws terms ts va vt vw vs) (y : Int) (hl : all.length < 1000000) :
    ∃ A' c' w3, (Builtin.append_ #[39, 39] 39 #[va, .slice (some ⟨wr.heap.size, 0, none⟩) 1 1]).run Try.prog (wr.alloc (.cells #[.int .u64 y] 31)) = .ok (.slice A' (all.length + 1) c') w3 ∧ HM W w3 F gh g L H (all ++ [y]) ws terms ts (.slice A' (all.length + 1) c') vt vw vs := by
  have hs := h.bl.size
  have lt1 := fun r hr => (h.al.1.lt r hr).2
  have lt2 := fun r hr => (h.tm.lt r hr).2
  have lt3 := fun r hr => (h.wl.1.lt r hr).2
  have lt4 := fun r hr => (h.tl.lt r hr).2
  obtain ⟨A', c', w3, hrun, hf, hk, hnew⟩ := h.al.push y hl hs (xs_lt h.hp.lt lt2 lt3 lt4)
  have hkF : ∀ b, F b → ¬ va.ownBlock = some b := fun b hb e => h.al.2 b e (.inl hb)
  refine ⟨A', c', w3, hrun, ⟨h.hp.keep hk hkF, h.fW, Keep.below h.bl hk hs (fun i hi e => by have := (h.al.1.lt i e).1; omega), ?_, ?_, ?_, ?_⟩⟩
  · rw [List.length_append]; exact hf
  · exact h.tm.step hk (fun b _ e => .inr (.inl e)) (fun b hb => by
      rcases hb with e | e | e | e
      · exact .inl (.inl e)
      · rcases hnew b e with e | e
        · exact .inl (.inr (.inl e))
        · exact .inr e
      · exact .inl (.inr (.inr (.inl e)))
      · exact .inl (.inr (.inr (.inr e))))
  · exact h.wl.step hk (fun b _ e => .inr (.inl e)) (fun b hb => by
      rcases hb with e | e | e | e
      · exact .inl (.inl e)
      · rcases hnew b e with e | e
        · exact .inl (.inr (.inl e))
        · exact .inr e
      · exact .inl (.inr (.inr (.inl e)))
      · exact .inl (.inr (.inr (.inr e))))
  · exact h.tl.step hk (fun b _ e => .inr (.inl e)) (fun b hb => by
      rcases hb with e | e | e | e
      · exact .inl (.inl e)
      · rcases hnew b e with e | e
        · exact .inl (.inr (.inl e))
        · exact .inr e
      · exact .inl (.inr (.inr (.inl e)))
      · exact .inl (.inr (.inr (.inr e))))
/-- One more term in the second row. -/
theorem HM.pushT (h : HM W wr F gh g L H all ws terms ts va vt vw vs) {Gx : Nat → Prop} {t : Tm} {k n : Int} {s : ByteArray} {A : Option Addr} {m c : Nat} (ht : TAt wr Gx t (.agg #[.int .i64 k, .int .i64 n, .string s, .slice A m c])) (hG : ∀ b, Gx b → b < wr.heap.size ∧ ¬ Xs F va vw vs b ∧ vt.ownBlock ≠ some b) (hl : terms.length < 1000000) :
    ∃ A' c' w3, (Builtin.append_ #[26, 26] 26 #[vt, .slice (some ⟨wr.heap.size, 0, none⟩) 1 1]).run Try.prog (wr.alloc (.cells #[.int .i64 k, .int .i64 n, .string s, .slice A m c] 28)) = .ok (.slice A' (terms.length + 1) c') w3 ∧ HM W w3 F gh g L H all ws (terms ++ [t]) ts va (.slice A' (terms.length + 1) c') vw vs := by
  have hs := h.bl.size
  have lt1 := fun r hr => (h.al.1.lt r hr).2
  have lt2 := fun r hr => (h.tm.lt r hr).2
  have lt3 := fun r hr => (h.wl.1.lt r hr).2
  have lt4 := fun r hr => (h.tl.lt r hr).2
  obtain ⟨A', c', w3, hrun, hf, hk, hnew⟩ := h.tm.push ht hG hl hs (xs_lt h.hp.lt lt1 lt3 lt4)
  have hkF : ∀ b, F b → ¬ vt.ownBlock = some b := fun b hb e => h.tm.2 b e (.inl hb)
  refine ⟨A', c', w3, hrun, ⟨h.hp.keep hk hkF, h.fW, Keep.below h.bl hk hs (fun i hi e => by have := (h.tm.lt i e).1; omega), ?_, hf, ?_, ?_⟩⟩
  · exact h.al.step hk (fun b _ e => .inr (.inl e)) (fun b hb => by
      rcases hb with e | e | e | e
      · exact .inl (.inl e)
      · rcases hnew b e with e | e
        · exact .inl (.inr (.inl e))
        · exact .inr e
      · exact .inl (.inr (.inr (.inl e)))
      · exact .inl (.inr (.inr (.inr e))))
  · exact h.wl.step hk (fun b _ e => .inr (.inr (.inl e))) (fun b hb => by
      rcases hb with e | e | e | e
      · exact .inl (.inl e)
      · exact .inl (.inr (.inl e))
      · rcases hnew b e with e | e
        · exact .inl (.inr (.inr (.inl e)))
        · exact .inr e
      · exact .inl (.inr (.inr (.inr e))))
  · exact h.tl.step hk (fun b _ e => .inr (.inr (.inl e))) (fun b hb => by
      rcases hb with e | e | e | e
      · exact .inl (.inl e)
      · exact .inl (.inr (.inl e))
      · rcases hnew b e with e | e
        · exact .inl (.inr (.inr (.inl e)))
        · exact .inr e
      · exact .inl (.inr (.inr (.inr e))))
/-- The second pair of rows is let go. -/
theorem HM.drop (h : HM W wr F gh g L H all ws terms ts va vt vw vs) : HM W wr F gh g L H all [] terms [] va vt (.slice none 0 0) (.slice none 0 0) := by
  have hno : ∀ r, (Value.slice none 0 0).ownBlock = some r → False := fun r h => by simp [Value.ownBlock] at h
  refine ⟨h.hp, h.fW, h.bl, h.al.step (Keep.refl (fun _ => False) _) (fun _ _ h => h.elim) (fun b hb => .inl ?_), h.tm.step (Keep.refl (fun _ => False) _) (fun _ _ h => h.elim) (fun b hb => .inl ?_), Fo.nil _ _ _, Ro.nil _ _ _⟩
  · rcases hb with e | e | e | e
    · exact .inl e
    · exact .inr (.inl e)
    · exact (hno b e).elim
    · exact (hno b e).elim
  · rcases hb with e | e | e | e
    · exact .inl e
    · exact .inr (.inl e)
    · exact (hno b e).elim
    · exact (hno b e).elim
end
end Go.Proofs.Ytnedjmjcbmoknaa.Hp
/- Plain: what HeapCollects puts fits. -/
namespace Go.Proofs.Ytnedjmjcbmoknaa.Hp
open Go.RowKit K Wd At Fl
set_option linter.unusedVariables false
set_option linter.unusedSimpArgs false

theorem bytesOf_app (a b : List ByteArray) : bytesOf (a ++ b) = bytesOf a + bytesOf b := by
  induction a with
  | nil => simp [bytesOf]
  | cons x r ih => simp only [List.cons_append, bytesOf, ih]; omega
theorem nums_fit : ∀ t, sndL (subs t) = true → ∀ L, L.length + nodes t ≤ 4096 → bytesOf L + 64 * nodes t ≤ 65536 → (nums t L).1 = true ∧ (nums t L).2.length ≤ L.length + nodes t ∧ bytesOf (nums t L).2 ≤ bytesOf L + 64 * nodes t := by
  refine Tm.ind fun t ih hs L hl hb => ?_
  obtain ⟨hsb, hsl⟩ := snd_parts hs
  obtain ⟨k, n, s, l⟩ := t
  simp only [Tm.l_mk] at ih hsl
  rw [nodes_mk] at hl hb
  rw [nums_mk, nodes_mk]
  by_cases h2 : k = 2
  · subst h2
    obtain ⟨_, _, h64⟩ := snd_sym hsb
    rw [if_pos rfl]
    have n64 : ¬ 64 < s.size := by omega
    unfold inE inL
    rw [if_neg n64, if_neg n64]
    by_cases hm : s ∈ L
    · rw [if_pos hm, if_pos hm]
      exact ⟨by simp, by simp only; omega, by simp only; omega⟩
    · have hf : full L s = false := by unfold full; exact decide_eq_false (by omega)
      rw [if_neg hm, if_neg hm, hf]
      refine ⟨by simp, ?_, ?_⟩
      · simp
      · simp only [Bool.false_eq_true, if_false, bytesOf_app, bytesOf]; omega
  · rw [if_neg h2]
    have hgo : ∀ (r : List Tm), (∀ u ∈ r, u ∈ l) → ∀ L, L.length + nodesL r ≤ 4096 → bytesOf L + 64 * nodesL r ≤ 65536 → (numsL r L).1 = true ∧ (numsL r L).2.length ≤ L.length + nodesL r ∧ bytesOf (numsL r L).2 ≤ bytesOf L + 64 * nodesL r := fun r => by
      induction r with
      | nil => intro _ L _ _; rw [numsL_nil, nodesL_nil]; exact ⟨rfl, Nat.le_refl _, Nat.le_refl _⟩
      | cons u r ihr =>
        intro hm L hl hb
        rw [nodesL_cons] at hl hb ⊢
        obtain ⟨a1, a2, a3⟩ := ih u (hm u (by simp)) (hsl u (hm u (by simp))) L (by omega) (by omega)
        obtain ⟨b1, b2, b3⟩ := ihr (fun v hv => hm v (by simp [hv])) (nums u L).2 (by omega) (by omega)
        rw [numsL_cons, if_pos a1]
        exact ⟨b1, by omega, by omega⟩
    obtain ⟨a1, a2, a3⟩ := hgo l (fun u hu => hu) L (by omega) (by omega)
    exact ⟨a1, by omega, by omega⟩
theorem put_rep {L : List ByteArray} {lim : Int} {H : List It} {t : Tm} (h : HB L lim H) (hok : putOk L lim H t) (h4 : (flL L t).length ≤ 4096) : Rep (putH L lim H t) (flL L t) t (putW L lim H t) := by
  obtain ⟨h1, h2⟩ := hok
  obtain ⟨hc, hn, hl⟩ := flE_ok h1
  have ha := nums_in t L hn
  rw [← hl] at ha
  obtain ⟨hs, _⟩ := chk_snd hc
  have hlen := lay_len_eq (ix (flL L t)) (ix (flL L t)) t (hW H).length 1
  have hlim := h.lim1
  obtain ⟨r1, _⟩ := its_rep (H := H ++ its (ix (flL L t)) t (hW H).length) (L := flL L t) h4 t hs ha (hW H).length (by omega) (Holds.self h.wf.pos)
  unfold putH putW
  rw [if_pos ⟨h1, h2⟩, if_pos ⟨h1, h2⟩]
  exact r1
theorem putH_ext (L : List ByteArray) (lim : Int) (H : List It) (t : Tm) : ∃ G, putH L lim H t = H ++ G := by
  unfold putH
  split
  · exact ⟨_, rfl⟩
  · exact ⟨[], by simp⟩
/-- What the terms that were put are, plain. -/
structure Pn (L : List ByteArray) (H : List It) (all : List Int) (terms : List Tm) : Prop where
  len : terms.length = all.length
  rep : ∀ (i : Nat) (t : Tm) (u : Int), terms[i]? = some t → all[i]? = some u → Rep H L t u
  nd : ∀ t ∈ terms, nodes t ≤ 600
section
variable {L L' : List ByteArray} {H H' : List It} {all : List Int} {terms : List Tm}
theorem Pn.more (h : Pn L H all terms) (hL : ∃ x, L' = L ++ x) (hH : ∃ G, H' = H ++ G) : Pn L' H' all terms := by
  obtain ⟨G, rfl⟩ := hH
  exact ⟨h.len, fun i t u ht hu => (h.rep i t u ht hu).more G hL, h.nd⟩
theorem Pn.push (h : Pn L H all terms) {t : Tm} {u : Int} (hr : Rep H L t u) (hn : nodes t ≤ 600) : Pn L H (all ++ [u]) (terms ++ [t]) := by
  refine ⟨by simp [h.len], fun i t' u' ht hu => ?_, fun t' ht => ?_⟩
  · by_cases hi : i < terms.length
    · rw [List.getElem?_append_left hi] at ht
      rw [List.getElem?_append_left (by rw [← h.len]; exact hi)] at hu
      exact h.rep i t' u' ht hu
    · rw [List.getElem?_append_right (by omega)] at ht
      rw [List.getElem?_append_right (by rw [← h.len]; omega), ← h.len] at hu
      cases hz : i - terms.length with
      | zero => rw [hz] at ht hu; simp at ht hu; subst ht; subst hu; exact hr
      | succ j => rw [hz] at ht; simp at ht
  · rcases List.mem_append.1 ht with e | e
    · exact h.nd t' e
    · simp at e; subst e; exact hn
theorem Pn.nil : Pn L H [] [] := ⟨rfl, fun i t u ht => by simp at ht, fun t ht => by cases ht⟩
end
/-- A tuple of what is there. -/
theorem tup_rep {L : List ByteArray} {H : List It} {ws : List Int} {ts : List Tm} (hp : Pos H) (h : Pn L H ws ts) (hl : (hW H).length ≤ 16777216) : Rep (H ++ [⟨7, 0, ws⟩]) L (ttup ts) (packW 7 ((hW H).length : Int)) := by
  obtain ⟨e1, e2, e3⟩ := pack_facts (k := 7) (n := ((hW H).length : Int)) (by omega) ⟨by show (0 : Int) ≤ _; omega, by show _ ≤ (1073741824 : Int); omega, fun e => absurd e (by decide)⟩
  refine Rep.box (x := ⟨7, 0, ws⟩) ts _ (packW_range _ _) e1 (by show boxK 7; decide) e2 ?_ h.len.symm (fun i t v ht hv => (h.rep i t v ht hv).more _ ⟨[], by simp⟩)
  rw [e3]
  have := itAt_right hp (b := [⟨7, 0, ws⟩]) (itAt_zero (⟨7, 0, ws⟩ : It) [])
  rw [Int.add_zero] at this
  exact this
/-- What the heap has when so many terms were put. -/
structure Bd (L : List ByteArray) (H : List It) (m : Nat) : Prop where
  l : L.length ≤ m
  b : bytesOf L ≤ 64 * m
  h : (hW H).length ≤ 2 * m
theorem Bd.put {L : List ByteArray} {H : List It} {m : Nat} {t : Tm} (h : Bd L H m) (hm : m + nodes t ≤ 40) : Bd (flL L t) (putH L 100000 H t) (m + nodes t) ∧ (chk t = 0 → putOk L 100000 H t ∧ putE L 100000 H t = 0) ∧ (chk t ≠ 0 → putE L 100000 H t ≠ 0) := by
  by_cases hc : chk t = 0
  · obtain ⟨hs, _⟩ := chk_snd hc
    obtain ⟨a1, a2, a3⟩ := nums_fit t hs L (by have := h.l; omega) (by have := h.b; omega)
    have hE : flE L t = 0 := by unfold flE; rw [if_pos hc, if_pos a1]
    have hL : flL L t = (nums t L).2 := by unfold flL; rw [if_pos hc]
    have hlay := lay_len (ix (flL L t)) t 1
    have hw := wds_range t
    have hfit : ((hW H).length : Int) + ((lay (ix (flL L t)) t 1).length : Int) ≤ 100000 := by have := h.h; omega
    have hok : putOk L 100000 H t := ⟨hE, hfit⟩
    refine ⟨⟨by rw [hL]; have := h.l; omega, by rw [hL]; have := h.b; omega, ?_⟩, fun _ => ⟨hok, by unfold putE; rw [if_pos hE, if_pos hfit]⟩, fun h => absurd hc h⟩
    unfold putH
    rw [if_pos hok, hW_append, its_hW, List.length_append]
    have := lay_len_eq (ix (flL L t)) (ix (flL L t)) t (hW H).length 1
    have := h.h
    omega
  · have hE : flE L t ≠ 0 := by unfold flE; rw [if_neg hc]; exact hc
    have hno : ¬ putOk L 100000 H t := fun h => hE h.1
    refine ⟨⟨?_, ?_, ?_⟩, fun h => absurd h hc, fun _ => by unfold putE; rw [if_neg hE]; exact hE⟩
    · unfold flL; rw [if_neg hc]; have := h.l; omega
    · unfold flL; rw [if_neg hc]; have := h.b; omega
    · unfold putH; rw [if_neg hno]; have := h.h; omega
end Go.Proofs.Ytnedjmjcbmoknaa.Hp
/- HeapCollects' rounds: what they have and leave. -/
namespace Go.Proofs.Ytnedjmjcbmoknaa.Hp
open Go.RowKit K At Wd Fl
set_option linter.unusedVariables false
set_option linter.unusedSimpArgs false

abbrev nilS : Value := .slice none 0 0
theorem Ro.all {w : World} {B : Nat} {X : Nat → Prop} {v : Value} {l : List Tm} (h : Ro w B X v l) : ∃ A c Gx, v = .slice A l.length c ∧ TsAt w Gx A l ∧ (∀ b, Gx b → b < w.heap.size ∧ ¬ X b) ∧ l.length ≤ c ∧ c ≤ maxLen ∧ (A = none → c = 0) := by
  obtain ⟨A, c, rfl, h1, h2, h3⟩ := h.1.form
  obtain ⟨⟨G, vs, hV, hG, hR⟩, ho⟩ := h
  refine ⟨A, c, fun b => G b ∨ (Value.slice A l.length c).ownBlock = some b, rfl, (hV.mono (fun b hb => .inl hb)).slot hR rfl (fun r hr => .inr hr), fun b hb => ?_, h1, h2, h3⟩
  rcases hb with e | e
  · exact ⟨(hG b e).1, (hG b e).2.1⟩
  · exact ⟨(hR.lt b e).2, ho b e⟩
/-- Ahead of the i-th term. -/
def S1 (W wr : World) (gh g : Nat) (l : List Tm) (i : Nat) (Aa : Option Addr) (na ca : Nat) (At : Option Addr) (ct : Nat) : Prop :=
  ∃ F L H all terms, HM W wr F gh g L H all [] terms [] (.slice Aa na ca) (.slice At na ct) nilS nilS ∧ Pn L H all terms ∧ Bd L H (nodesL (l.take i)) ∧ all.length = na ∧ na ≤ i
/-- Behind the i-th term's Put. -/
def S1p (W wr : World) (gh g : Nat) (l : List Tm) (i : Nat) (Aa : Option Addr) (na ca : Nat) (At : Option Addr) (ct : Nat) (t : Tm) (y : Int) : Prop :=
  ∃ F L H all terms, HM W wr F gh g L H all [] terms [] (.slice Aa na ca) (.slice At na ct) nilS nilS ∧ Pn L H all terms ∧ Bd L H (nodesL (l.take (i + 1))) ∧ all.length = na ∧ na ≤ i ∧ (chk t = 0 → Rep H L t y)
section
variable {W wr w' : World} {gh g : Nat} {l : List Tm} {i na ca ct : Nat} {Aa At : Option Addr} {t : Tm} {y : Int}
theorem S1.bl (h : S1 W wr gh g l i Aa na ca At ct) : Below W.heap.size W wr := by
  obtain ⟨F, L, H, all, terms, h1, _⟩ := h
  exact h1.bl
theorem S1p.bl (h : S1p W wr gh g l i Aa na ca At ct t y) : Below W.heap.size W wr := by
  obtain ⟨F, L, H, all, terms, h1, _⟩ := h
  exact h1.bl
theorem S1p.below (h : S1p W wr gh g l i Aa na ca At ct t y) (hb : Below wr.heap.size wr w') : S1p W w' gh g l i Aa na ca At ct t y := by
  obtain ⟨F, L, H, all, terms, h1, h2⟩ := h
  exact ⟨F, L, H, all, terms, h1.below hb, h2⟩
theorem S1p.skip (h : S1p W wr gh g l i Aa na ca At ct t y) : S1 W wr gh g l (i + 1) Aa na ca At ct := by
  obtain ⟨F, L, H, all, terms, h1, h2, h3, h4, h5, _⟩ := h
  exact ⟨F, L, H, all, terms, h1, h2, h3, h4, by omega⟩
theorem S1.put (h : S1 W wr gh g l i Aa na ca At ct) (hl : nodesL l ≤ 40) (ht : l[i]? = some t) {A : Option Addr} {c : Nat} (hT : TsA W A l) : ∃ b o A' c', A = some ⟨b, o, none⟩ ∧ b < W.heap.size ∧ (∀ wx, Below W.heap.size W wx → wx.cell? ⟨b, o + i * 4, none⟩ = some (.int .i64 t.k) ∧ wx.cell? ⟨b, o + i * 4 + 1, none⟩ = some (.int .i64 t.n) ∧ wx.cell? ⟨b, o + i * 4 + 2, none⟩ = some (.string t.s) ∧ wx.cell? ⟨b, o + i * 4 + 3, none⟩ = some (.slice A' t.l.length c')) ∧
    RowKit.Hid (∀ wx, Below W.heap.size W wx → TAt wx (· < W.heap.size) t (.agg #[.int .i64 t.k, .int .i64 t.n, .string t.s, .slice A' t.l.length c'])) ∧
    RowKit.Hid (Calls Try.prog 14 #[.pointer (some ⟨gh, 0, none⟩), .agg #[.int .i64 t.k, .int .i64 t.n, .string t.s, .slice A' t.l.length c']] wr (fun e w' => ∃ y ee, e = .returned (.tuple #[.int .u64 y, .int .i64 ee]) ∧ (chk t = 0 → ee = 0) ∧ S1p W w' gh g l i Aa na ca At ct t y)) := by
  obtain ⟨b, o, A', c', rfl, hb, q0, q1, q2, q3, ok, hts⟩ := TsAt.at_ (show TsAt W (· < W.heap.size) A l from hT) ht
  have hta : TAt W (· < W.heap.size) t (.agg #[.int .i64 t.k, .int .i64 t.n, .string t.s, .slice A' t.l.length c']) := TAt.of ok hts
  refine ⟨b, o, A', c', rfl, hb, fun wx hbx => ⟨(hbx.cell (p := ⟨b, o + i * 4, none⟩) hb).trans q0, (hbx.cell (p := ⟨b, o + i * 4 + 1, none⟩) hb).trans q1, (hbx.cell (p := ⟨b, o + i * 4 + 2, none⟩) hb).trans q2, (hbx.cell (p := ⟨b, o + i * 4 + 3, none⟩) hb).trans q3⟩, Lib.hid (fun wx hbx => hta.under hbx (fun b hb => hb)), Lib.hid ?_⟩
  obtain ⟨F, L, H, all, terms, h1, h2, h3, h4, h5⟩ := h
  have hnd := nodesL_take_succ ht
  have hle := nodesL_take_le l (i + 1)
  have hn40 : nodes t ≤ 40 := by omega
  obtain ⟨hbd, hyes, hno⟩ := h3.put (t := t) (by omega)
  refine (put_any gh g L 100000 H t _ wr F (· < W.heap.size) h1.hp (hta.under h1.bl (fun b hb => hb)) (fun b hb => ⟨Nat.lt_of_lt_of_le hb h1.bl.size, fun hf => by have := h1.fW b hf; omega⟩) (by omega)).mono ?_
  rintro e w' ⟨rfl, hm⟩
  have hHB' := put_hb (t := t) h1.hp.1 (by have := hbd.l; omega)
  obtain ⟨F', hM⟩ := h1.moved hm
  refine ⟨_, _, rfl, fun hc => (hyes hc).2, F', _, _, all, terms, hM, h2.more (flL_ext L t) (putH_ext L 100000 H t), by rw [hnd]; exact hbd, h4, h5, fun hc => put_rep h1.hp.1 (hyes hc).1 (by have := hbd.l; omega)⟩
theorem S1p.got (h : S1p W wr gh g l i Aa na ca At ct t y) (hc : chk t = 0) (hn : nodes t ≤ 40) {v : Value} (hv : TA wr t v) : Calls Try.prog 11 #[.pointer (some ⟨gh, 0, none⟩), .int .u64 y, v] wr fun e w' => e = .returned (.bool true) ∧ Below wr.heap.size wr w' := by
  obtain ⟨F, L, H, all, terms, h1, h2, h3, h4, h5, h6⟩ := h
  have := got_any gh g L 100000 H t t y v wr F h1.hp (h6 hc) (by have := wds_range t; omega) hv
  rwa [eqT_self] at this
/-- The word is added. -/
theorem S1p.push (h : S1p W wr gh g l i Aa na ca At ct t y) (hc : chk t = 0) (hi : i < 1000) (hn : nodes t ≤ 40) :
    ∃ A1 c1 w1, (Builtin.append_ #[39, 39] 39 #[.slice Aa na ca, .slice (some ⟨wr.heap.size, 0, none⟩) 1 1]).run Try.prog (wr.alloc (.cells #[.int .u64 y] 31)) = .ok (.slice A1 (na + 1) c1) w1 ∧ Below W.heap.size W w1 ∧
      ∀ (k n : Int) (s : ByteArray) (A' : Option Addr) (m c' : Nat), TAt w1 (· < W.heap.size) t (.agg #[.int .i64 k, .int .i64 n, .string s, .slice A' m c']) →
        ∃ A2 c2 w2, (Builtin.append_ #[26, 26] 26 #[.slice At na ct, .slice (some ⟨w1.heap.size, 0, none⟩) 1 1]).run Try.prog (w1.alloc (.cells #[.int .i64 k, .int .i64 n, .string s, .slice A' m c'] 28)) = .ok (.slice A2 (na + 1) c2) w2 ∧ S1 W w2 gh g l (i + 1) A1 (na + 1) c1 A2 c2 := by
  obtain ⟨F, L, H, all, terms, h1, h2, h3, h4, h5, h6⟩ := h
  have hlt : terms.length = na := by rw [h2.len, h4]
  obtain ⟨A1, c1, w1, r1, hm1⟩ := h1.push y (by omega)
  rw [h4] at r1 hm1
  refine ⟨A1, c1, w1, r1, hm1.bl, fun k n s A' m c' ht => ?_⟩
  obtain ⟨A2, c2, w2, r2, hm2⟩ := hm1.pushT ht (fun b hb => ⟨Nat.lt_of_lt_of_le hb hm1.bl.size, fun hx => by
    rcases hx with e | e | e | e
    · have := hm1.fW b e; omega
    · have := (hm1.al.1.lt b e).1; omega
    · simp [Value.ownBlock] at e
    · simp [Value.ownBlock] at e, fun e => by have := (hm1.tm.lt b e).1; omega⟩) (by omega)
  rw [hlt] at r2 hm2
  exact ⟨A2, c2, w2, r2, F, L, H, _, _, hm2, h2.push (h6 hc) (by omega), h3, by simp [h4], by omega⟩
end
end Go.Proofs.Ytnedjmjcbmoknaa.Hp
/- HeapCollects' second and third rounds: tuples of what is there, and roots. -/
namespace Go.Proofs.Ytnedjmjcbmoknaa.Hp
open Go.RowKit K At Wd Fl
set_option linter.unusedVariables false
set_option linter.unusedSimpArgs false

def S3 (W wr : World) (gh g m : Nat) (Aa : Option Addr) (na ca : Nat) (At : Option Addr) (ct : Nat) (Aw : Option Addr) (k cw : Nat) (As : Option Addr) (cs : Nat) : Prop :=
  ∃ F L H all terms ws ts, HM W wr F gh g L H all ws terms ts (.slice Aa na ca) (.slice At na ct) (.slice Aw k cw) (.slice As k cs) ∧ Pn L H all terms ∧ Pn L H ws ts ∧ (hW H).length ≤ m ∧ all.length = na ∧ ws.length = k
def S4 (W wr : World) (gh g m : Nat) (Aa : Option Addr) (na ca : Nat) (At : Option Addr) (ct : Nat) (y : Int) (As : Option Addr) (k cs : Nat) : Prop :=
  ∃ F L H all terms ws ts Aw cw, HM W wr F gh g L H all ws terms ts (.slice Aa na ca) (.slice At na ct) (.slice Aw k cw) (.slice As k cs) ∧ Pn L H all terms ∧ Rep H L (ttup ts) y ∧ nodes (ttup ts) ≤ 600 ∧ (hW H).length ≤ m ∧ all.length = na ∧ ts.length = k
section
variable {W wr w' : World} {gh g m i na ca ct k cw cs : Nat} {l : List Tm} {Aa At Aw As : Option Addr} {y : Int}
theorem S1.small (h : S1 W wr gh g l i Aa na ca At ct) : na ≤ i := by
  obtain ⟨F, L, H, all, terms, h1, h2, h3, h4, h5⟩ := h
  exact h5
theorem S1.next (h : S1 W wr gh g l i Aa na ca At ct) (hl : nodesL l ≤ 40) : S3 W wr gh g 80 Aa na ca At ct none 0 0 none 0 := by
  obtain ⟨F, L, H, all, terms, h1, h2, h3, h4, h5⟩ := h
  have := nodesL_take_le l i
  have := h3.h
  exact ⟨F, L, H, all, terms, [], [], h1, h2, Pn.nil, by omega, h4, rfl⟩
theorem S3.bl (h : S3 W wr gh g m Aa na ca At ct Aw k cw As cs) : Below W.heap.size W wr := by
  obtain ⟨F, L, H, all, terms, ws, ts, h1, _⟩ := h
  exact h1.bl
theorem S3.below (h : S3 W wr gh g m Aa na ca At ct Aw k cw As cs) (hb : Below wr.heap.size wr w') : S3 W w' gh g m Aa na ca At ct Aw k cw As cs := by
  obtain ⟨F, L, H, all, terms, ws, ts, h1, h2⟩ := h
  exact ⟨F, L, H, all, terms, ws, ts, h1.below hb, h2⟩
theorem S4.bl (h : S4 W wr gh g m Aa na ca At ct y As k cs) : Below W.heap.size W wr := by
  obtain ⟨F, L, H, all, terms, ws, ts, Aw, cw, h1, _⟩ := h
  exact h1.bl
theorem S4.below (h : S4 W wr gh g m Aa na ca At ct y As k cs) (hb : Below wr.heap.size wr w') : S4 W w' gh g m Aa na ca At ct y As k cs := by
  obtain ⟨F, L, H, all, terms, ws, ts, Aw, cw, h1, h2⟩ := h
  exact ⟨F, L, H, all, terms, ws, ts, Aw, cw, h1.below hb, h2⟩
/-- One of what is there is taken. -/
theorem S3.pick (h : S3 W wr gh g m Aa na ca At ct Aw k cw As cs) {p : Nat} (hp : p < na) (hk : k < 1000) :
    ∃ ad u, Aa = some ad ∧ ad.block < wr.heap.size ∧ wr.cell? (ad.add p) = some (.int .u64 u) ∧
      ∃ A1 c1 w1, (Builtin.append_ #[39, 39] 39 #[.slice Aw k cw, .slice (some ⟨wr.heap.size, 0, none⟩) 1 1]).run Try.prog (wr.alloc (.cells #[.int .u64 u] 31)) = .ok (.slice A1 (k + 1) c1) w1 ∧
        ∃ b o A' c' kk nn s mm, At = some ⟨b, o, none⟩ ∧ b < w1.heap.size ∧ w1.cell? ⟨b, o + p * 4, none⟩ = some (.int .i64 kk) ∧ w1.cell? ⟨b, o + p * 4 + 1, none⟩ = some (.int .i64 nn) ∧ w1.cell? ⟨b, o + p * 4 + 2, none⟩ = some (.string s) ∧ w1.cell? ⟨b, o + p * 4 + 3, none⟩ = some (.slice A' mm c') ∧
          ∃ A2 c2 w2, (Builtin.append_ #[26, 26] 26 #[.slice As k cs, .slice (some ⟨w1.heap.size, 0, none⟩) 1 1]).run Try.prog (w1.alloc (.cells #[.int .i64 kk, .int .i64 nn, .string s, .slice A' mm c'] 28)) = .ok (.slice A2 (k + 1) c2) w2 ∧ S3 W w2 gh g m Aa na ca At ct A1 (k + 1) c1 A2 c2 := by
  obtain ⟨F, L, H, all, terms, ws, ts, h1, h2, h3, h4, h5, h6⟩ := h
  have hal := h1.al.1
  rw [h5] at hal
  obtain ⟨ad, uv, rfl, hab, huv, hcell⟩ := (Reads.of_own hal).at_ hp
  obtain ⟨u, hu, rfl⟩ := u64_get huv
  refine ⟨ad, u, rfl, hab, hcell, ?_⟩
  obtain ⟨t, ht⟩ : ∃ t, terms[p]? = some t := ⟨_, List.getElem?_eq_getElem (by rw [h2.len, h5]; exact hp)⟩
  obtain ⟨A1, c1, w1, r1, hm1⟩ := h1.swap.push u (by omega)
  rw [h6] at r1 hm1
  refine ⟨A1, c1, w1, r1, ?_⟩
  obtain ⟨b, o, A', c', cv, hv, hb, q0, q1, q2, q3, G, hta, hG⟩ := hm1.swap.tm.at_ ht
  injection hv with hv1 hv2 hv3
  refine ⟨b, o, A', c', t.k, t.n, t.s, t.l.length, hv1, hb, q0, q1, q2, q3, ?_⟩
  have hlt : ts.length = k := by rw [h3.len, h6]
  obtain ⟨A2, c2, w2, r2, hm2⟩ := hm1.pushT hta (fun b hb => ⟨(hG b hb).1, fun hx => by
    rcases hx with e | e | e | e
    · exact (hG b hb).2.1 (.inl e)
    · exact (hG b hb).2.1 (.inr (.inr (.inl e)))
    · exact (hG b hb).2.1 (.inr (.inl e))
    · exact (hG b hb).2.2 e, fun e => (hG b hb).2.1 (.inr (.inr (.inr e)))⟩) (by omega)
  rw [hlt] at r2 hm2
  exact ⟨A2, c2, w2, r2, F, L, H, _, _, _, _, hm2.swap, h2, h3.push (h2.rep p t u ht hu) (h2.nd t (List.mem_of_getElem? ht)), h4, h5, by simp [h6]⟩
/-- A tuple of what was taken. -/
theorem S3.tuple (h : S3 W wr gh g m Aa na ca At ct Aw k cw As cs) (hk : k ≤ 4) (hm : m ≤ 60000) :
    ∃ bl, Calls Try.prog 24 #[.slice As k cs, .int .i64 500] wr (fun e w' => e = .returned (.bool bl) ∧ Below wr.heap.size wr w') ∧ (bl = false → ∀ wx, Below wr.heap.size wr wx →
      Calls Try.prog 19 #[.pointer (some ⟨gh, 0, none⟩), .slice Aw k cw] wx fun e w' => ∃ y, e = .returned (.tuple #[.int .u64 y, .int .i64 0]) ∧ S4 W w' gh g (m + 5) Aa na ca At ct y As k cs) := by
  obtain ⟨F, L, H, all, terms, ws, ts, h1, h2, h3, h4, h5, h6⟩ := h
  have hlt : ts.length = k := by rw [h3.len, h6]
  obtain ⟨A, c, Gx, hv, hts, hG, hl1, hl2, hl3⟩ := h1.tl.all
  injection hv with e1 e2 e3
  subst e1 e3
  have hla := largeAll_any ts 500 As cs wr (by decide) (hts.mono (fun b hb => (hG b hb).1)) (by rw [hlt]; unfold maxLen; omega)
  rw [hlt] at hla
  refine ⟨_, hla, fun hf wx hbx => ?_⟩
  have h1x := h1.below hbx
  have hwl := h1x.wl
  rw [h6] at hwl
  refine (tuple_ok gh g L 100000 H ws wx F h1x.hp k cw h6 (by omega) (fun u hu => ?_) Aw (Reads.of_own hwl.1) (fun a ha hf => ?_) (by omega)).mono ?_
  · obtain ⟨j, hj, rfl⟩ := List.getElem_of_mem hu
    have hr := h3.rep j (ts[j]'(by omega)) _ (List.getElem?_eq_getElem (by omega)) (List.getElem?_eq_getElem hj)
    exact ⟨hr.u64.1, hr.may⟩
  · subst ha
    exact hwl.2 a.block rfl (.inl hf)
  · rintro e w' ⟨rfl, hmv⟩
    obtain ⟨F', hM⟩ := h1x.moved hmv
    refine ⟨_, rfl, F', _, _, all, terms, ws, ts, Aw, cw, hM, h2.more ⟨[], by simp⟩ ⟨_, rfl⟩, tup_rep h1.hp.1.wf.pos h3 (by omega), ?_, ?_, h5, hlt⟩
    · unfold largeB at hf
      simp only [Bool.or_eq_false_iff, decide_eq_false_iff_not] at hf
      unfold ttup
      rw [nodes_mk]
      omega
    · rw [hW_append, hW_one, List.length_append]
      have := itW_len (⟨7, 0, ws⟩ : It)
      rw [if_pos (.inl rfl)] at this
      simp only [h6] at this
      omega
/-- The tuple is there too. -/
theorem S4.push (h : S4 W wr gh g m Aa na ca At ct y As k cs) (hn : na < 1000) (hk : k ≤ 4) :
    ∃ A1 c1 w1, (Builtin.append_ #[39, 39] 39 #[.slice Aa na ca, .slice (some ⟨wr.heap.size, 0, none⟩) 1 1]).run Try.prog (wr.alloc (.cells #[.int .u64 y] 31)) = .ok (.slice A1 (na + 1) c1) w1 ∧
      ∀ wx, Below w1.heap.size w1 wx → ∃ A2 c2 w2, (Builtin.append_ #[26, 26] 26 #[.slice At na ct, .slice (some ⟨wx.heap.size, 0, none⟩) 1 1]).run Try.prog (wx.alloc (.cells #[.int .i64 7, .int .i64 0, .string ⟨#[]⟩, .slice As k cs] 28)) = .ok (.slice A2 (na + 1) c2) w2 ∧ S3 W w2 gh g m A1 (na + 1) c1 A2 c2 none 0 0 none 0 := by
  obtain ⟨F, L, H, all, terms, ws, ts, Aw, cw, h1, h2, h3, h4, h5, h6, h7⟩ := h
  have hlt : terms.length = na := by rw [h2.len, h6]
  obtain ⟨A1, c1, w1, r1, hm1⟩ := h1.push y (by omega)
  rw [h6] at r1 hm1
  refine ⟨A1, c1, w1, r1, fun wx hbx => ?_⟩
  have hmx := hm1.below hbx
  obtain ⟨A, c, Gx, hv, hts, hG, hl1, hl2, hl3⟩ := hmx.tl.all
  injection hv with e1 e2 e3
  subst e1 e3
  rw [h7] at hl1
  have hta : TAt wx Gx (ttup ts) (.agg #[.int .i64 7, .int .i64 0, .string ⟨#[]⟩, .slice As k cs]) := by
    have := TAt.of (t := ttup ts) (A := As) (c := cs) ⟨by show (Lit.int .i64 7).wf = true; decide, by show (Lit.int .i64 0).wf = true; decide, by show (ByteArray.empty).size ≤ maxLen; decide, by show ts.length ≤ cs; omega, hl2, hl3⟩ hts
    unfold tv ttup at this
    simp only [Tm.k, Tm.n, Tm.s, Tm.l, h7] at this
    exact this
  obtain ⟨A2, c2, w2, r2, hm2⟩ := hmx.drop.pushT hta (fun b hb => ⟨(hG b hb).1, fun hx => by
    rcases hx with e | e | e | e
    · exact (hG b hb).2 (.inl e)
    · exact (hG b hb).2 (.inr (.inl e))
    · simp [Value.ownBlock] at e
    · simp [Value.ownBlock] at e, fun e => (hG b hb).2 (.inr (.inr (.inl e)))⟩) (by omega)
  rw [hlt] at r2 hm2
  exact ⟨A2, c2, w2, r2, F, L, H, _, _, [], [], hm2, h2.push h3 h4, Pn.nil, h5, by simp [h6], rfl⟩
/-- All is collected for what was taken. -/
theorem S3.collected (h : S3 W wr gh g m Aa na ca At ct Aw k cw As cs) (hk : k ≤ 20) (hm : m ≤ 60000) :
    Calls Try.prog 27 #[.pointer (some ⟨gh, 0, none⟩), .slice Aw k cw, .slice As k cs] wr fun e w' => e = .returned (.bool true) ∧ Below W.heap.size W w' := by
  obtain ⟨F, L, H, all, terms, ws, ts, h1, h2, h3, h4, h5, h6⟩ := h
  have hlt : ts.length = k := by rw [h3.len, h6]
  obtain ⟨A, c, Gx, hv, hts, hG, hl1, hl2, hl3⟩ := h1.tl.all
  injection hv with e1 e2 e3
  subst e1 e3
  have hwl := h1.wl
  rw [h6] at hwl
  refine (collected_any gh g L 100000 H wr F Gx h1.hp Aw As k cw cs ws ts (Reads.of_own hwl.1) (fun a ha hf => by subst ha; exact hwl.2 a.block rfl (.inl hf)) hts (fun b hb => ⟨(hG b hb).1, fun hf => (hG b hb).2 (.inl hf)⟩) h6 hlt h3.rep (fun t ht => by have := wds_range t; have := h3.nd t ht; omega) hk (by omega)).mono ?_
  rintro e w' ⟨rfl, hkk⟩
  exact ⟨rfl, Keep.below h1.bl hkk h1.bl.size (fun i hi hf => by have := h1.fW i hf; omega)⟩
end
end Go.Proofs.Ytnedjmjcbmoknaa.Hp
/- A row of rows of whole numbers, opened. -/
namespace Go.Proofs.Ytnedjmjcbmoknaa.K
open Go.RowKit Go.ChangeShapes Go.WideShapes
set_option linter.unusedVariables false
set_option linter.unusedSimpArgs false

/-- A row of whole numbers from outside: each number's place. -/
def IRow (w : World) (A : Option Addr) (n : Nat) : Prop := ∀ k, k < n → ∃ ad x, A = some ad ∧ ad.block < w.heap.size ∧ (Lit.int .i64 x).wf = true ∧ ∀ wx, Below w.heap.size w wx → wx.cell? (ad.add k) = some (.int .i64 x)
def IRows (w : World) (A : Option Addr) (n : Nat) : Prop := ∀ k, k < n → ∃ ad A' n' c', A = some ad ∧ ad.block < w.heap.size ∧ n' ≤ maxLen ∧ IRow w A' n' ∧ ∀ wx, Below w.heap.size w wx → wx.cell? (ad.add k) = some (.slice A' n' c')
theorem IRow.of {w : World} {A : Option Addr} {xs : List Int} (h : Reads w w.heap.size 1 A xs.length (xs.map (Value.int .i64))) (hw : ∀ n ∈ xs, (Lit.int .i64 n).wf = true) : IRow w A xs.length := fun k hk => by
  obtain ⟨ad, u, e, hb, hu, hc⟩ := h.at_ hk
  rw [List.getElem?_map, List.getElem?_eq_getElem hk] at hu
  injection hu with hu
  subst hu
  exact ⟨ad, _, e, hb, hw _ (List.getElem_mem hk), fun wx hbx => (hbx.cell (p := ad.add k) (by rw [block_of_add]; exact hb)).trans hc⟩
section
variable {H : Type} {enc : TypeId × Value → H} {P : Program} {W : World}
theorem open_rows_arg {t e q : TypeId} {v : Value} {d : DataW H} {p : List MemPlace} {r : Reach} {b0 base : Nat} {held : Bool} (ht : P.underlying t = some (.slice e)) (he : P.underlying e = some (.slice q)) (hq : P.underlying q = some (.int .i64)) (ce : P.cellsOf e = 1) (cq : P.cellsOf q = 1)
    (o : Value.okWide P W r b0 t v) (h : DataW.Trod enc P W base (fun _ => true) held t v d p) :
    ∃ (A : Option Addr) (n c : Nat), v = .slice A n c ∧ IRows W A n ∧ n ≤ maxLen := by
  obtain ⟨a, n, c, rfl⟩ := okWide_slice ht o
  obtain ⟨fuel, hf⟩ := h
  rcases Go.Deep.open_int_rows ht he hq ce cq hf with ⟨hcs, _⟩ | ⟨a', len, cap, A, L, C, Z, hcs, _, hl, hm, _, hr⟩
  · simp [Value.cells] at hcs
    obtain ⟨rfl, rfl, rfl⟩ := hcs
    exact ⟨none, 0, 0, rfl, fun k hk => absurd hk (Nat.not_lt_zero _), Nat.zero_le _⟩
  · simp [Value.cells] at hcs
    obtain ⟨rfl, rfl, rfl⟩ := hcs
    refine ⟨some a', n, c, rfl, fun k hk => ?_, by omega⟩
    obtain ⟨h1, h2, h3, h4, h5, h6, h7⟩ := hr k (by omega)
    have hb := World.block_lt_of_cell? _ _ h1
    rw [block_of_add] at hb
    refine ⟨a', A k, L k, C k, rfl, hb, by omega, fun j hj => ?_, fun wx hbx => (hbx.cell (p := a'.add k) (by rw [block_of_add]; exact hb)).trans h1⟩
    cases hA : A k with
    | none => have := h6 hA; omega
    | some a2 =>
      have hc := (h7 a2 hA).2 j (by omega)
      have hb2 := World.block_lt_of_cell? _ _ hc
      rw [block_of_add] at hb2
      have hj : j < (Z k).length := by omega
      refine ⟨a2, (Z k).getD j 0, rfl, hb2, h5 _ ?_, fun wx hbx => (hbx.cell (p := a2.add j) (by rw [block_of_add]; exact hb2)).trans hc⟩
      rw [List.getD_eq_getElem?_getD, List.getElem?_eq_getElem hj]
      exact List.getElem_mem hj
end
end Go.Proofs.Ytnedjmjcbmoknaa.K
