/- The document's arena (tenureref08), in memory: New, Used, at, Get, Blocks, each by its contract. -/
import Derived.Test.YtnanacokclcbfaaLaw08b
import Derived.Laws.OwnMore
namespace Go.Proofs.Ytnanacokclcbfaa.Ar
open Go.RowKit K
set_option linter.unusedVariables false
set_option linter.unusedSimpArgs false

/-- What an entry of the document's arena has, of block number i + 1. -/
def Ent (w : World) (G : Nat → Prop) (i : Nat) : Option (List Int) → Value → Value → Prop
  | none, a, b => a = .int .i64 0 ∧ b = .slice none 0 0
  | some ws, a, b => a = .int .i64 ((i : Int) + 1) ∧ ∃ A c, b = .slice A ws.length c ∧ w.ownsRow 0 68 1 (.slice A ws.length c) ws.length (wds ws) ∧ ∀ r, (Value.slice A ws.length c).ownBlock = some r → G r
def RAr (w : World) (G : Nat → Prop) (g all : Nat) (B : Bks) : Prop :=
  (∀ k, G k → k < w.heap.size) ∧ G g ∧ ∃ A c V, Blk w g 75 #[.int .i64 (all : Int), .slice A B.length c] ∧ w.ownsRow 0 84 2 (.slice A B.length c) B.length V ∧
    (∀ r, (Value.slice A B.length c).ownBlock = some r → G r) ∧ ∀ i o, B[i]? = some o → ∃ a b, V[i * 2]? = some a ∧ V[i * 2 + 1]? = some b ∧ Ent w G i o a b
section
variable {w w' : World} {F G G' : Nat → Prop} {g all : Nat} {B : Bks}
theorem Ent.mono {i : Nat} {o : Option (List Int)} {a b : Value} (h : Ent w G i o a b) (hG : ∀ k, G k → G' k) : Ent w G' i o a b := by
  cases o with
  | none => exact h
  | some ws =>
    obtain ⟨h1, A, c, h2, h3, h4⟩ := h
    exact ⟨h1, A, c, h2, h3, fun r hr => hG r (h4 r hr)⟩
theorem Ent.keep {i : Nat} {o : Option (List Int)} {a b : Value} (h : Ent w G i o a b) (hk : Keep F w w') (hd : ∀ r, b.ownBlock = some r → ¬ F r) : Ent w' G i o a b := by
  cases o with
  | none => exact h
  | some ws =>
    obtain ⟨h1, A, c, rfl, h3, h4⟩ := h
    exact ⟨h1, A, c, rfl, ownsRow_keep h3 hk hd, h4⟩
/-- An entry's words lie in no block of another kind. -/
theorem Ent.apart {i : Nat} {o : Option (List Int)} {a b : Value} (h : Ent w G i o a b) {k : Nat} {t : TypeId} {cs : Array Value} (hg : Blk w k t cs) (hne : 68 ≠ t) : b.ownBlock ≠ some k := by
  cases o with
  | none => obtain ⟨_, rfl⟩ := h; simp [Value.ownBlock]
  | some ws =>
    obtain ⟨_, A, c, rfl, h3, _⟩ := h
    exact own_blk_ne h3 hg hne
theorem Ent.in_ {i : Nat} {o : Option (List Int)} {a b : Value} (h : Ent w G i o a b) : ∀ r, b.ownBlock = some r → G r := by
  cases o with
  | none => obtain ⟨_, rfl⟩ := h; intro r hr; simp [Value.ownBlock] at hr
  | some ws =>
    obtain ⟨_, A, c, rfl, _, h4⟩ := h
    exact h4
theorem RAr.keep (h : RAr w G g all B) (hk : Keep F w w') (hd : ∀ r, G r → ¬ F r) : RAr w' G g all B := by
  obtain ⟨h1, h2, A, c, V, h3, h4, h5, h6⟩ := h
  refine ⟨fun k hk2 => Nat.lt_of_lt_of_le (h1 k hk2) hk.size, h2, A, c, V, h3.keep hk (hd _ h2), ownsRow_keep h4 hk (fun r hr => hd r (h5 r hr)), h5, fun i o hi => ?_⟩
  obtain ⟨a, b, e1, e2, e3⟩ := h6 i o hi
  exact ⟨a, b, e1, e2, e3.keep hk (fun r hr => hd r (e3.in_ r hr))⟩
theorem RAr.lt (h : RAr w G g all B) : ∀ k, G k → k < w.heap.size := h.1
theorem RAr.cells (h : RAr w G g all B) : g < w.heap.size ∧ w.cell? ⟨g, 0, none⟩ = some (.int .i64 (all : Int)) ∧ w.frozen? ⟨g, 1, none⟩ = false ∧ ∃ A c, w.cell? ⟨g, 1, none⟩ = some (.slice A B.length c) ∧ (A = none → c = 0) := by
  obtain ⟨h1, h2, A, c, V, h3, h4, h5, h6⟩ := h
  exact ⟨h3.lt, by rw [h3.cell]; rfl, h3.frozen _, A, c, by rw [h3.cell]; rfl, own_nil h4⟩
theorem RAr.spot (h : RAr w G g all B) {i : Nat} {o : Option (List Int)} (hi : B[i]? = some o) :
    ∃ b0 c x y, w.cell? ⟨g, 1, none⟩ = some (.slice (some ⟨b0, 0, none⟩) B.length c) ∧ b0 < w.heap.size ∧ b0 ≠ g ∧ G b0 ∧ w.cell? ⟨b0, i * 2, none⟩ = some x ∧ w.cell? ⟨b0, i * 2 + 1, none⟩ = some y ∧ w.frozen? ⟨b0, i * 2, none⟩ = false ∧ w.frozen? ⟨b0, i * 2 + 1, none⟩ = false ∧ Ent w G i o x y := by
  obtain ⟨h1, h2, A, c, V, h3, h4, h5, h6⟩ := h
  have hlt := (List.getElem?_eq_some_iff.1 hi).1
  obtain ⟨a, b, e1, e2, e3⟩ := h6 i o hi
  obtain ⟨b0, c0, hv, _, hb0⟩ := h4.form (by omega)
  injection hv with q1 _ q2
  subst q1 q2
  refine ⟨b0, c, a, b, by rw [h3.cell]; rfl, hb0, ?_, h5 b0 rfl, (h4.cellAt _ (by omega)).trans e1, (h4.cellAt _ (by omega)).trans e2, h4.frozenAt _, h4.frozenAt _, e3⟩
  intro e
  subst e
  exact own_blk_ne h4 h3 (by decide) rfl
end
def rndO : Option (List Int) → Nat
  | none => 0
  | some ws => rnd ws.length
def keyO (i : Nat) : Option (List Int) → List Int
  | none => []
  | some _ => [(i : Int)]
theorem used_take {B : Bks} {k : Nat} {o : Option (List Int)} (h : B[k]? = some o) : used (B.take (k + 1)) = used (B.take k) + rndO o := by
  induction B generalizing k with
  | nil => simp at h
  | cons a B ih =>
    cases k with
    | zero =>
      simp at h
      subst h
      cases a <;> simp [used, rndO]
    | succ k =>
      have := ih (k := k) (by simpa using h)
      cases a <;> simp [used, List.take_succ_cons] at this ⊢ <;> omega
theorem used_take_le (B : Bks) (k : Nat) : used (B.take k) ≤ used B := by
  induction B generalizing k with
  | nil => simp [used]
  | cons a B ih =>
    cases k with
    | zero => simp [used]
    | succ k =>
      have := ih k
      cases a <;> simp [used, List.take_succ_cons] at this ⊢ <;> omega
theorem ksFrom_take {B : Bks} {k : Nat} {o : Option (List Int)} (i : Nat) (h : B[k]? = some o) : ksFrom i (B.take (k + 1)) = ksFrom i (B.take k) ++ keyO (i + k) o := by
  induction B generalizing k i with
  | nil => simp at h
  | cons a B ih =>
    cases k with
    | zero =>
      simp at h
      subst h
      cases a <;> simp [ksFrom, keyO]
    | succ k =>
      have := ih (k := k) (i + 1) (by simpa using h)
      rw [show i + 1 + k = i + (k + 1) by omega] at this
      cases a <;> simp [ksFrom, List.take_succ_cons, this]
section
variable {w : World} {G : Nat → Prop} {g all : Nat} {B : Bks}
set_option maxRecDepth 100000 in
set_option maxHeartbeats 4000000 in
theorem rused_any (h : RAr w G g all B) (hL : LenOk B) (hn : B.length ≤ 65536) (hu : used B ≤ 16777216) :
    Calls Try.prog 39 #[.pointer (some ⟨g, 0, none⟩)] w fun e w' => e = .returned (.int .i64 (used B : Int)) ∧ w = w' := by
  obtain ⟨hg, q0, _, A, c, q1, _⟩ := h.cells
  have HR := Lib.hid h
  have HL := Lib.hid hL
  have HU := Lib.hid hu
  obtain ⟨m, hm⟩ : ∃ m, B.length = m := ⟨_, rfl⟩
  rw [hm] at q1 hn
  have HM := Lib.hid hm
  clear h hL hm hu q0
  go_enter Try.func39, Try.ntmps39
  go_wp2_with fail
  go_loop [3, 4] (fun s i => ∃ k : Nat, k ≤ m ∧ i = .int .i64 (k : Int) ∧ s = .int .i64 (used (B.take k) : Int)) (fun _ i => m - (intOf i).toNat)
  case atStart => exact ⟨0, Nat.zero_le _, rfl, rfl⟩
  case round =>
    obtain ⟨k, hk, rfl, rfl⟩ := hrel
    have hub := used_take_le B k
    have hut := HU.out
    obtain ⟨s, hs⟩ : ∃ s, used (B.take k) = s := ⟨_, rfl⟩
    rw [hs] at hub
    have hsb : s ≤ 16777216 := by omega
    clear hub hut
    have HS := Lib.hid hs
    rw [hs]
    clear hs
    by_cases hlt : k < m
    · obtain ⟨o, ho⟩ : ∃ o, B[k]? = some o := ⟨_, List.getElem?_eq_getElem (by rw [HM.out]; exact hlt)⟩
      obtain ⟨b0, c0, x, y, j0, _, _, _, j1, j2, _, _, hent⟩ := HR.out.spot ho
      rw [HM.out, q1] at j0
      injection j0 with j0
      injection j0 with e1 _ e2
      subst e1 e2
      have hst := used_take ho
      rw [HS.out] at hst
      have hk0 : (0 : Int) ≤ (k : Int) := by omega
      have hkm : (k : Int) < (m : Int) := by omega
      cases o with
      | none =>
        obtain ⟨rfl, rfl⟩ := hent
        have HST := Lib.hid hst
        clear hst ho
        go_wp2_with fail
        go_round
        case rel => exact ⟨k + 1, by omega, by go_num, by rw [HST.out]; simp [rndO]⟩
        case measure => simp [intOf]; omega
      | some ws =>
        obtain ⟨rfl, A2, c2, rfl, _, _⟩ := hent
        obtain ⟨l1, l2⟩ := HL.out ws (List.mem_of_getElem? ho)
        simp only [rndO] at hst
        have hr2 : rnd ws.length ≤ 16777216 := by
          have := used_take_le B (k + 1)
          have := HU.out
          omega
        have HRO := Lib.hid (fun w => rround_any (ws.length : Int) (WalkArith.wf_i64 (by omega)) w)
        rw [rndI_nat l1 l2] at HRO
        obtain ⟨r, hr⟩ : ∃ r, rnd ws.length = r := ⟨_, rfl⟩
        rw [hr] at HRO hst hr2
        have HST := Lib.hid hst
        have hkg : (0 : Int) < (k : Int) + 1 := by omega
        have hkd : decide ((0 : Int) < (k : Int) + 1) = true := decide_eq_true hkg
        clear hst ho hr l1
        go_wp2_with (first | (go_at_call 10; refine (HRO.out _).mono ?_; rintro e w' ⟨rfl, rfl⟩) | fail)
        go_round
        case rel => exact ⟨k + 1, by omega, by go_num, by rw [HST.out]; go_num⟩
        case measure => simp [intOf]; omega
    · obtain rfl : k = m := by omega
      have HE := Lib.hid (show s = used B from by rw [← HS.out, ← HM.out, List.take_length])
      go_wp2_with fail
      go_ret
      exact ⟨ret1_i (by rw [HE.out]), rfl⟩
def atI (B : Bks) (k : Int) : Int := if (bAt B k).isSome then k - 1 else -1
set_option maxRecDepth 100000 in
set_option maxHeartbeats 4000000 in
theorem rat_any (h : RAr w G g all B) (k : Int) (hk : (Lit.int .i64 k).wf = true) (hn : B.length ≤ 65536) :
    Calls Try.prog 48 #[.pointer (some ⟨g, 0, none⟩), .int .i64 k] w fun e w' => e = .returned (.int .i64 (atI B k)) ∧ w = w' := by
  obtain ⟨hg, q0, _, A, c, q1, _⟩ := h.cells
  obtain ⟨n1, n2⟩ := bounds_i64 hk
  obtain ⟨m, hm⟩ : ∃ m, B.length = m := ⟨_, rfl⟩
  rw [hm] at q1 hn
  by_cases h1 : k < 1
  · have HE := Lib.hid (show atI B k = -1 from by unfold atI bAt; rw [if_pos h1]; rfl)
    clear h q0 hm hk
    go_enter Try.func48, Try.ntmps48
    go_wp2_with fail
    go_ret
    exact ⟨ret1_i HE.out.symm, rfl⟩
  · by_cases h2 : (m : Int) < k
    · have HE := Lib.hid (show atI B k = -1 from by unfold atI bAt; rw [if_neg h1, List.getElem?_eq_none (by omega)]; rfl)
      clear h q0 hm hk
      go_enter Try.func48, Try.ntmps48
      go_wp2_with fail
      go_ret
      exact ⟨ret1_i HE.out.symm, rfl⟩
    · obtain ⟨j, rfl⟩ : ∃ j : Nat, k = (j : Int) + 1 := ⟨(k - 1).toNat, by omega⟩
      obtain ⟨o, ho⟩ : ∃ o, B[j]? = some o := ⟨_, List.getElem?_eq_getElem (by omega)⟩
      obtain ⟨b0, c0, x, y, j0, _, _, _, j1, j2, _, _, hent⟩ := h.spot ho
      rw [hm, q1] at j0
      injection j0 with j0
      injection j0 with e1 _ e2
      subst e1 e2
      have hb : bAt B ((j : Int) + 1) = o := by
        unfold bAt
        rw [if_neg h1, show ((j : Int) + 1 - 1).toNat = j by omega, ho]
        rfl
      have w1 : IntKind.i64.wrap (j : Int) = (j : Int) := IntWalk.i64_in _ (by omega)
      have hj0 : (0 : Int) ≤ (j : Int) := by omega
      have hjm : (j : Int) < (m : Int) := by omega
      cases o with
      | none =>
        obtain ⟨rfl, rfl⟩ := hent
        have HE := Lib.hid (show atI B ((j : Int) + 1) = -1 from by unfold atI; rw [hb]; rfl)
        clear h q0 hm hb ho hk
        go_enter Try.func48, Try.ntmps48
        go_wp2_with fail
        go_ret
        exact ⟨ret1_i HE.out.symm, rfl⟩
      | some ws =>
        obtain ⟨rfl, A2, c2, rfl, _, _⟩ := hent
        have HE := Lib.hid (show atI B ((j : Int) + 1) = (j : Int) from by unfold atI; rw [hb]; simp)
        have hne : (((j : Int) + 1) == 0) = false := by rw [beq_eq_false_iff_ne]; omega
        have hne2 : decide (((j : Int) + 1) = 0) = false := decide_eq_false (by omega)
        clear h q0 hm hb ho hk
        go_enter Try.func48, Try.ntmps48
        go_wp2_with fail
        go_ret
        exact ⟨ret1_i HE.out.symm, rfl⟩
def GetR (w : World) (E : Int) (ws : List Int) (e : Ending) (w' : World) : Prop :=
  ∃ A c, e = .returned (.tuple #[.slice A ws.length c, .int .i64 E]) ∧ Reads w w.heap.size 1 A ws.length (wds ws) ∧ w = w'
set_option maxRecDepth 100000 in
set_option maxHeartbeats 4000000 in
theorem rget_any (h : RAr w G g all B) (k : Int) (hk : (Lit.int .i64 k).wf = true) (hn : B.length ≤ 65536) :
    Calls Try.prog 34 #[.pointer (some ⟨g, 0, none⟩), .int .i64 k] w (GetR w (gtE B k) (gtL B k)) := by
  obtain ⟨hg, q0, _, A, c, q1, _⟩ := h.cells
  have HAT := Lib.hid (rat_any h k hk hn)
  obtain ⟨m, hm⟩ : ∃ m, B.length = m := ⟨_, rfl⟩
  rw [hm] at q1 hn
  cases hb : bAt B k with
  | none =>
    have E1 := Lib.hid (show gtE B k = 6 from by unfold gtE; rw [hb]; rfl)
    have E2 := Lib.hid (show gtL B k = [] from by unfold gtL; rw [hb]; rfl)
    have e3 : atI B k = -1 := by unfold atI; rw [hb]; rfl
    rw [e3] at HAT
    clear h q0 hm hb hk e3
    go_enter Try.func34, Try.ntmps34
    go_wp2_with (first | (go_at_call 48; refine HAT.out.mono ?_; rintro e w' ⟨rfl, rfl⟩) | fail)
    go_ret2
    exact ⟨none, 0, by rw [E1.out, E2.out]; rfl, by rw [E2.out]; exact Reads.none_, rfl⟩
  | some ws =>
    have E1 := Lib.hid (show gtE B k = 0 from by unfold gtE; rw [hb]; rfl)
    have E2 := Lib.hid (show gtL B k = ws from by unfold gtL; rw [hb]; rfl)
    obtain ⟨k1, k2, hgt⟩ := bAt_some hb
    obtain ⟨j, rfl⟩ : ∃ j : Nat, k = (j : Int) + 1 := ⟨(k - 1).toNat, by omega⟩
    have e3 : atI B ((j : Int) + 1) = (j : Int) := by unfold atI; rw [hb]; simp
    rw [show ((j : Int) + 1 - 1).toNat = j by omega] at hgt
    obtain ⟨b0, c0, x, y, j0, _, _, _, j1, j2, _, _, hent⟩ := h.spot hgt
    rw [hm, q1] at j0
    injection j0 with j0
    injection j0 with e1 _ e2
    subst e1 e2
    obtain ⟨rfl, A2, c2, rfl, hown, _⟩ := hent
    have HRD := Lib.hid (Reads.of_own hown)
    rw [e3] at HAT
    have hj0 : (0 : Int) ≤ (j : Int) := by omega
    have hjm : (j : Int) < (m : Int) := by omega
    have hjn : ¬ ((j : Int) < 0) := by omega
    clear h q0 hm hb hk e3 hgt hown k1 k2
    go_enter Try.func34, Try.ntmps34
    go_wp2_with (first | (go_at_call 48; refine HAT.out.mono ?_; rintro e w' ⟨rfl, rfl⟩) | fail)
    go_ret2
    exact ⟨A2, c2, by rw [E1.out, E2.out]; rfl, by rw [E2.out]; exact HRD.out, rfl⟩
theorem infoInt8 : (Try.prog.info? 3).map (fun i => (i.zero, i.size, i.bytes)) = some (some (.int .i64 0), 1, 8) := by kernel_rfl
theorem cell_one_new (w : World) (t : TypeId) (x : Value) : ∀ j u, [x][j]? = some u → (w.alloc (.cells #[x] t)).cell? ((⟨w.heap.size, 0, none⟩ : Addr).add j) = some u := by
  intro j u hj
  have hb := Blk.new w t #[x]
  rcases j with _ | j
  · simp at hj; subst hj; have := hb.cell 0; simp [Addr.add, this]
  · simp at hj
set_option maxRecDepth 100000 in
set_option maxHeartbeats 4000000 in
theorem rblocks_any (h : RAr w G g all B) (hn : B.length ≤ 65536) :
    Calls Try.prog 40 #[.pointer (some ⟨g, 0, none⟩)] w (Ks.RowPost w (blks B)) := by
  obtain ⟨i0, hi, hz0, hz1, hz2⟩ := info_parts infoInt8
  obtain ⟨hg, q0, _, A, c, q1, _⟩ := h.cells
  have HR := Lib.hid h
  obtain ⟨m, hm⟩ : ∃ m, B.length = m := ⟨_, rfl⟩
  rw [hm] at q1 hn
  have HM := Lib.hid hm
  clear h hm q0 q1
  go_enter Try.func40, Try.ntmps40
  go_wp2_with fail
  go_loopw [3, 4] (fun s i wr => ∃ k : Nat, k ≤ m ∧ i = .int .i64 (k : Int) ∧ Below w.heap.size w wr ∧ wr.ownsRow w.heap.size 3 1 s (ksFrom 1 (B.take k)).length ((ksFrom 1 (B.take k)).map (Value.int .i64))) (fun _ i _ => m - (intOf i).toNat)
  case atStart => exact ⟨0, Nat.zero_le _, rfl, Below.refl _ _, World.ownsRow_nil _ _ _ _⟩
  case round =>
    obtain ⟨k, hk, rfl, hb, hown⟩ := hrel
    have hlen := ksFrom_length 1 (B.take k)
    rw [List.length_take] at hlen
    have hlen2 : (ksFrom 1 (B.take k)).length ≤ 65536 := by omega
    have HR2 := HR.out.keep (F := fun _ => False) (Keep.new hb) (fun _ _ h => h)
    obtain ⟨hg2, q0, _, A, c, q1, _⟩ := HR2.cells
    rw [HM.out] at q1
    have HB := Lib.hid hb
    have HO := Lib.hid hown
    clear hb hown hlen q0
    by_cases hlt : k < m
    · obtain ⟨o, ho⟩ : ∃ o, B[k]? = some o := ⟨_, List.getElem?_eq_getElem (by rw [HM.out]; exact hlt)⟩
      obtain ⟨b0, c0, x, y, j0, _, _, _, j1, j2, _, _, hent⟩ := HR2.spot ho
      rw [HM.out, q1] at j0
      injection j0 with j0
      injection j0 with e1 _ e2
      subst e1 e2
      have hst := ksFrom_take 1 ho
      have hk0 : (0 : Int) ≤ (k : Int) := by omega
      have hkm : (k : Int) < (m : Int) := by omega
      cases o with
      | none =>
        obtain ⟨rfl, rfl⟩ := hent
        have HST := Lib.hid hst
        clear hst ho HR2
        go_wp2_with fail
        go_roundw
        case rel => exact ⟨k + 1, by omega, by go_num, HB.out, by rw [HST.out]; simpa [keyO] using HO.out⟩
        case measure => simp [intOf]; omega
      | some ws =>
        obtain ⟨rfl, A2, c2, rfl, _, _⟩ := hent
        rw [show keyO (1 + k) (some ws) = [(k : Int) + 1] from by show [((1 + k : Nat) : Int)] = _; rw [show ((1 + k : Nat) : Int) = (k : Int) + 1 by omega]] at hst
        have HST := Lib.hid hst
        obtain ⟨Ks, hKs⟩ : ∃ Ks, ksFrom 1 (B.take k) = Ks := ⟨_, rfl⟩
        rw [hKs] at HO HST hlen2
        obtain ⟨A3, c3, rfl, _, _⟩ := ownsRow_form HO.out
        have b1 : Ks.length + 1 ≤ maxLen := by unfold maxLen; omega
        have b2 : (Ks.length + 1) * 8 ≤ 140737488355328 := by omega
        have b3 : w.heap.size ≤ (wr.alloc (.cells #[.int .i64 ((k : Int) + 1)] 3)).heap.size := by have := HB.out.size; simp; omega
        have hkg : (0 : Int) < (k : Int) + 1 := by omega
        have hkd : decide ((0 : Int) < (k : Int) + 1) = true := decide_eq_true hkg
        clear hst ho HR2 hKs
        go_wp2_with (first
          | (at_builtin; refine wpList_append_own_at _ rfl _ _ 35 rfl w.heap.size 3 i0 _ 1 8 Try.underlying35 hi hz0 hz1 hz2 rfl (by decide) _ _ _ rfl (HO.out.alloc _) ⟨wr.heap.size, 0, none⟩ 1 1 [.int .i64 ((k : Int) + 1)] rfl rfl (cell_one_new _ _ _) (by simp [Value.oneCell']) b1 b2 b3 ?_; intro v3 w3 hR3 hg3 _ hat3)
          | fail)
        obtain ⟨A5, c5, rfl, _, _⟩ := ownsRow_form hR3
        go_roundw
        case rel => exact ⟨k + 1, by omega, by go_num, (HB.out.alloc HB.out.size _).grown hg3 (by have := HB.out.size; simp; omega) (fun r hr => (HO.out.lt r hr).1), by rw [HST.out]; simpa using hR3⟩
        case measure => simp [intOf]; omega
    · obtain rfl : k = m := by omega
      have HE := Lib.hid (show ksFrom 1 (B.take k) = blks B from by rw [← HM.out, List.take_length]; rfl)
      rw [HE.out] at HO
      clear HR2
      go_wp2_with fail
      go_ret
      exact ⟨_, rfl, HO.out, HB.out⟩
end
end Go.Proofs.Ytnanacokclcbfaa.Ar
