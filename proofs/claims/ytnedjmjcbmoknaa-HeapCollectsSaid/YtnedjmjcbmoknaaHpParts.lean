/- The parts of a boxed one, by a contract. -/
import Derived.Test.YtnedjmjcbmoknaaHpPut
namespace Go.Proofs.Ytnedjmjcbmoknaa.Hp
open Go.RowKit K At Wd Fl
set_option linter.unusedVariables false
set_option linter.unusedSimpArgs false

/-- The number that parts tells. -/
def itN (x : It) : Int := if x.k = 9 then 0 else if x.k = 5 then x.n else (x.ws.length : Int)
theorem head_facts {x : It} (h : ItOk x) (h9 : x.k ≠ 9) : ∃ hw, hd x.k x.n x.ws.length = [hw] ∧ U64 hw ∧ unE hw = 0 ∧ unN hw = if x.k = 5 then x.n * 128 + (x.ws.length : Int) else (x.ws.length : Int) := by
  have hb := h.box
  have hl := h.len
  unfold boxK at hb
  by_cases h5 : x.k = 5
  · obtain ⟨f1, f2⟩ := h.fn h5
    obtain ⟨d1, d2, d3⟩ := pack_facts (k := 11) (n := x.n * 128 + (x.ws.length : Int)) (by omega) ⟨by show (0 : Int) ≤ _; omega, by show _ ≤ (137438953536 : Int); omega, fun _ => by omega⟩
    refine ⟨packW 11 (x.n * 128 + (x.ws.length : Int)), by unfold hd; rw [if_neg (by omega), if_pos h5], packW_range _ _, d1, by rw [d3, if_pos h5]⟩
  · have h7 : x.k = 7 := by omega
    obtain ⟨d1, d2, d3⟩ := pack_facts (k := 10) (n := (x.ws.length : Int)) (by omega) ⟨by show (0 : Int) ≤ _; omega, by show _ ≤ (64 : Int); omega, fun h => by omega⟩
    exact ⟨packW 10 (x.ws.length : Int), by unfold hd; rw [if_pos h7], packW_range _ _, d1, by rw [d3, if_neg h5]⟩
/-- What parts leaves: where the words lie, and what is made besides. -/
def PartPost (x : It) (r : Nat) (w : World) (e : Ending) (w' : World) : Prop :=
  ∃ A c, e = .returned (.tuple #[.int .i64 (itN x), .slice A x.ws.length c]) ∧ Below w.heap.size w w' ∧ (∀ a, A = some a → a.block = r) ∧ (A = none → c = 0) ∧ x.ws.length ≤ c ∧ ∀ wx : World, (∀ j, wx.cell? ⟨r, j, none⟩ = w.cell? ⟨r, j, none⟩) → r < wx.heap.size → Reads wx wx.heap.size 1 A x.ws.length (u64s x.ws)
theorem PartPost.mk {x : It} {r : Nat} {w w' : World} {n' : Int} {l c : Nat} {A : Option Addr} (hn : n' = itN x) (hl : l = x.ws.length) (hb : Below w.heap.size w w') (ha : ∀ a, A = some a → a.block = r) (h0 : A = none → c = 0) (hc : x.ws.length ≤ c)
    (hr : ∀ wx : World, (∀ j, wx.cell? ⟨r, j, none⟩ = w.cell? ⟨r, j, none⟩) → r < wx.heap.size → Reads wx wx.heap.size 1 A x.ws.length (u64s x.ws)) : PartPost x r w (.returned (.tuple #[.int .i64 n', .slice A l c])) w' := by
  subst hn; subst hl
  exact ⟨A, c, rfl, hb, ha, h0, hc, hr⟩
theorem reads_sub {W : List Int} {r q m c N : Nat} {ws : List Int} (hs : Seg W q ws) (hm : ws.length = m) {w : World} (hcell : ∀ j u, W[j]? = some u → w.cell? ⟨r, j, none⟩ = some (.int .u64 u)) {A : Option Addr} (hA : 0 < m → A = some ⟨r, q, none⟩) :
    ∀ wx : World, (∀ j, wx.cell? ⟨r, j, none⟩ = w.cell? ⟨r, j, none⟩) → r < wx.heap.size → Reads wx wx.heap.size 1 A m (u64s ws) := by
  intro wx hx hlt
  refine ⟨by unfold u64s; simp [hm], fun h0 => ⟨_, hA h0, hlt, fun j u hu => ?_⟩⟩
  unfold u64s at hu
  rw [List.getElem?_map] at hu
  cases hv : ws[j]? with
  | none => rw [hv] at hu; cases hu
  | some v =>
    rw [hv] at hu
    injection hu with hu
    subst hu
    have e : (⟨r, q, none⟩ : Addr).add j = ⟨r, q + j, none⟩ := by
      unfold Addr.add
      split
      · rename_i h; rw [h]; rfl
      · rfl
    rw [e, hx, hcell _ _ (hs j v hv)]
set_option maxRecDepth 100000 in
set_option maxHeartbeats 8000000 in
theorem parts_any (gh r N c p : Nat) (W : List Int) (x : It) (u : Int) (w : World) (hu : U64 u) (hk : unK u = x.k) (hn : unN u = (p : Int)) (hok : ItOk x) (hs : Seg W p (itW x)) (hl : p + (itW x).length ≤ N) (hW : W.length = N) (hN : N ≤ 16777216) (hc1 : N ≤ c) (hc2 : c ≤ maxLen) (c2 : w.cell? ⟨gh, 2, none⟩ = some (.slice (some ⟨r, 0, none⟩) N c)) (hcell : ∀ j u, W[j]? = some u → w.cell? ⟨r, j, none⟩ = some (.int .u64 u)) :
    Calls Try.prog 39 #[.pointer (some ⟨gh, 0, none⟩), .int .u64 u] w (PartPost x r w) := by
  have HOK := Lib.hid hok
  have hlen := itW_len x
  obtain ⟨ee, hee⟩ : ∃ ee, unE u = ee := ⟨_, rfl⟩
  have HUN := Lib.hid (fun w => unpack_as hu hk hn hee w)
  have hbx := hok.box
  by_cases h9 : x.k = 9
  · obtain ⟨h0, hm⟩ := hok.cons h9
    have hsw : itW x = x.ws := by unfold itW hd; rw [if_neg (by omega), if_neg (by omega)]; rfl
    rw [hsw] at hs hl
    have HRD := Lib.hid (fun A hA => reads_sub (A := A) (c := c) (N := N) hs hm hcell hA)
    have HN9 := Lib.hid (show itN x = 0 from by unfold itN; rw [if_pos h9])
    have HM := Lib.hid hm
    rw [h9] at HUN
    rw [hm] at hl
    have hl2 : p + 2 ≤ N := hl
    have HIX := Lib.hid (show PartPost x r w = PartPost x r w from rfl)
    clear hok hs hcell hu hk hn hee hbx hm h9 h0 hsw hlen hl
    go_enter Try.func39, Try.ntmps39
    go_wp2_with fail
    refine (HUN.out _).mono ?_
    rintro e w1 ⟨rfl, hb1⟩
    have c2' : w1.cell? ⟨gh, 2, none⟩ = some (.slice (some ⟨r, 0, none⟩) N c) := (hb1.cell (p := ⟨gh, 2, none⟩) (World.block_lt_of_cell? _ _ c2)).trans c2
    have HB1 := Lib.hid hb1
    clear hb1
    go_wp2_with fail
    go_quiet (fail)
    go_wp2_with fail
    go_ret2
    exact PartPost.mk (A := some ⟨r, p, none⟩) HN9.out.symm (by rw [HM.out]; omega) (fdrewN HB1.out _) (fun a ha => by injection ha with ha; rw [← ha]) (fun h => by cases h) (by rw [HM.out]; omega) (by rw [HM.out]; exact HRD.out _ (fun _ => rfl))
  · obtain ⟨hw, hhd, hwU, hwE, hwN⟩ := head_facts hok h9
    have hsw : itW x = [hw] ++ x.ws := by unfold itW; rw [hhd]
    rw [hsw] at hs hl
    obtain ⟨hs1, hs2⟩ := Seg.app.1 hs
    simp only [List.length_append, List.length_cons, List.length_nil] at hl hs2
    have hx := hs1 0 hw rfl
    rw [Nat.add_zero] at hx
    have hcx := hcell p hw hx
    obtain ⟨m, hm⟩ : ∃ m, x.ws.length = m := ⟨_, rfl⟩
    have hm64 := hok.len
    obtain ⟨kh, hkh⟩ : ∃ kh, unK hw = kh := ⟨_, rfl⟩
    rw [hm] at hl hwN hm64
    have HRD := Lib.hid (fun A hA => reads_sub (A := A) (c := c) (N := N) hs2 hm hcell hA)
    have HM := Lib.hid hm
    have hpc : p + 1 + m ≤ c := by omega
    have hpN : p < N := by omega
    have hpNi : (p : Int) < (N : Int) := by omega
    have hp0 : (0 : Int) ≤ (p : Int) := by omega
    have b9 : (x.k == 9) = false := by simp [h9]
    by_cases h5 : x.k = 5
    · obtain ⟨g0, g1⟩ := hok.fn h5
      rw [if_pos h5] at hwN
      obtain ⟨nn, hnn⟩ : ∃ nn, x.n * 128 + (m : Int) = nn := ⟨_, rfl⟩
      rw [hnn] at hwN
      have HU2 := Lib.hid (fun w => unpack_as hwU hkh hwN hwE w)
      have HN9 := Lib.hid (show itN x = x.n from by unfold itN; rw [if_neg h9, if_pos h5])
      have e1 : nn / 128 = x.n := by omega
      have e2 : nn % 128 = (m : Int) := by omega
      have n0 : 0 ≤ nn := by omega
      have n1 : nn < 1099511627776 := by omega
      rw [h5] at HUN
      have HE1 := Lib.hid e1
      have HE2 := Lib.hid e2
      obtain ⟨xn, hxn⟩ : ∃ xn, x.n = xn := ⟨_, rfl⟩
      clear hok hs hs1 hs2 hcell hu hk hn hee hbx hm h9 h5 hsw hlen hl hhd hwE hwN hkh hx hwU hnn b9 e1 e2 g0 g1 hxn
      go_enter Try.func39, Try.ntmps39
      go_wp2_with fail
      refine (HUN.out _).mono ?_
      rintro e w1 ⟨rfl, hb1⟩
      have q2 : w1.cell? ⟨gh, 2, none⟩ = some (.slice (some ⟨r, 0, none⟩) N c) := (hb1.cell (p := ⟨gh, 2, none⟩) (World.block_lt_of_cell? _ _ c2)).trans c2
      have qx : w1.cell? ⟨r, p, none⟩ = some (.int .u64 hw) := (hb1.cell (p := ⟨r, p, none⟩) (World.block_lt_of_cell? _ _ hcx)).trans hcx
      have HB1 := Lib.hid hb1
      clear hb1
      go_wp2_with fail
      refine (HU2.out _).mono ?_
      rintro e w2 ⟨rfl, hb2⟩
      have p2 : w2.cell? ⟨gh, 2, none⟩ = some (.slice (some ⟨r, 0, none⟩) N c) := (hb2.cell (p := ⟨gh, 2, none⟩) (World.block_lt_of_cell? _ _ q2)).trans q2
      have HB2 := Lib.hid (fbelow HB1.out hb2)
      clear hb2 q2 qx c2 hcx
      go_wp2_with fail
      rw [HE1.out, HE2.out]
      go_quiet (fail)
      go_wp2_with fail
      all_goals go_ret2
      · refine PartPost.mk (A := some ⟨r, 0, none⟩) HN9.out.symm ?_ (fdrewN HB2.out _) (fun a ha => by injection ha with ha; rw [← ha]) (fun h => by cases h) ?_ ?_
        · have := HM.out; omega
        · rw [HM.out]; omega
        · rw [HM.out]; exact HRD.out _ (fun h0 => by omega)
      · refine PartPost.mk (A := some ⟨r, p + 1, none⟩) HN9.out.symm ?_ (fdrewN HB2.out _) (fun a ha => by injection ha with ha; rw [← ha]) (fun h => by cases h) ?_ ?_
        · have := HM.out; omega
        · rw [HM.out]; omega
        · rw [HM.out]; exact HRD.out _ (fun h0 => rfl)
    · have h7 : x.k = 7 := by have := hok.box; unfold boxK at this; omega
      rw [if_neg h5] at hwN
      have HU2 := Lib.hid (fun w => unpack_as hwU hkh hwN hwE w)
      have HN9 := Lib.hid (show itN x = (m : Int) from by unfold itN; rw [if_neg h9, if_neg h5, HM.out])
      rw [h7] at HUN
      clear hok hs hs1 hs2 hcell hu hk hn hee hbx hm h9 h5 hsw hlen hl hhd hwE hwN hkh hx hwU b9 h7
      go_enter Try.func39, Try.ntmps39
      go_wp2_with fail
      refine (HUN.out _).mono ?_
      rintro e w1 ⟨rfl, hb1⟩
      have q2 : w1.cell? ⟨gh, 2, none⟩ = some (.slice (some ⟨r, 0, none⟩) N c) := (hb1.cell (p := ⟨gh, 2, none⟩) (World.block_lt_of_cell? _ _ c2)).trans c2
      have qx : w1.cell? ⟨r, p, none⟩ = some (.int .u64 hw) := (hb1.cell (p := ⟨r, p, none⟩) (World.block_lt_of_cell? _ _ hcx)).trans hcx
      have HB1 := Lib.hid hb1
      clear hb1
      go_wp2_with fail
      refine (HU2.out _).mono ?_
      rintro e w2 ⟨rfl, hb2⟩
      have p2 : w2.cell? ⟨gh, 2, none⟩ = some (.slice (some ⟨r, 0, none⟩) N c) := (hb2.cell (p := ⟨gh, 2, none⟩) (World.block_lt_of_cell? _ _ q2)).trans q2
      have HB2 := Lib.hid (fbelow HB1.out hb2)
      clear hb2 q2 qx c2 hcx
      go_wp2_with fail
      go_quiet (fail)
      go_wp2_with fail
      all_goals go_ret2
      · refine PartPost.mk (A := some ⟨r, 0, none⟩) HN9.out.symm ?_ (fdrewN HB2.out _) (fun a ha => by injection ha with ha; rw [← ha]) (fun h => by cases h) ?_ ?_
        · have := HM.out; omega
        · rw [HM.out]; omega
        · rw [HM.out]; exact HRD.out _ (fun h0 => by omega)
      · refine PartPost.mk (A := some ⟨r, p + 1, none⟩) HN9.out.symm ?_ (fdrewN HB2.out _) (fun a ha => by injection ha with ha; rw [← ha]) (fun h => by cases h) ?_ ?_
        · have := HM.out; omega
        · rw [HM.out]; omega
        · rw [HM.out]; exact HRD.out _ (fun h0 => rfl)
end Go.Proofs.Ytnedjmjcbmoknaa.Hp
