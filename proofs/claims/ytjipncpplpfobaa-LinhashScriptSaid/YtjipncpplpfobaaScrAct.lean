/- tenurelaw10.act: a call of both, by its contract. -/
import Derived.Test.YtjipncpplpfobaaScrD
import Derived.Deep.RegionHeld3
namespace Go.Proofs.Ytjipncpplpfobaa.Lb
open Go.RowKit K Hs
set_option linter.unusedVariables false
set_option linter.unusedSimpArgs false

theorem ov_below {w w1 w2 : World} {v : Value} {n : Nat} {xs : List Value} (hb : Below w.heap.size w w1) (hr : w1.ownsRow w.heap.size 54 2 v n xs) (hg : w1.grownBy w2 v.ownBlock) : Below w.heap.size w w2 :=
  hb.grown hg hb.size (fun r hr2 => (hr.lt r hr2).1)
theorem own_rd {w : World} {base n : Nat} {v : Value} {l : List It} (h : w.ownsRow base 54 2 v n (itL l)) : ∃ A c, v = .slice A n c ∧ RdI w w.heap.size A l := own_rdI h
set_option maxRecDepth 100000 in
set_option maxHeartbeats 16000000 in
theorem act_any (X : Nat → Prop) (w0 : World) (g least h M : Nat) (L : List (List It)) (kd nd hd : Int) (W : World) (hD : DX X w0 g least (tot L : Int) h L L W) (hK : Kp least M L) (hM : M ≤ 60) (hkd : (Lit.int .i64 kd).wf = true) (hnd : (Lit.int .i64 nd).wf = true) (hh : 0 ≤ hd ∧ hd ≤ 4294967295) :
    Calls Try.prog 10 #[.pointer (some ⟨g, 0, none⟩), .pointer (some ⟨h, 0, none⟩), .agg #[.int .i64 kd, .int .i64 nd, .int .u32 hd]] W fun e w' =>
      e = .returned (.bool true) ∧ ∃ L', DX X w0 g least (tot L' : Int) h L' L' w' ∧ Kp least (M + 1) L' := by
  obtain ⟨W1, hW1⟩ : ∃ W1, W.alloc (.cells #[.int .i64 kd, .int .i64 nd, .int .u32 hd] 34) = W1 := ⟨_, rfl⟩
  have hbb : Below W.heap.size W W1 := by rw [← hW1]; exact (Below.refl _ _).alloc (Nat.le_refl _) _
  have hg : Blk W1 W.heap.size 34 #[.int .i64 kd, .int .i64 nd, .int .u32 hd] := by rw [← hW1]; exact Blk.new _ _ _
  have hO := hK.ok (by omega)
  have hB1 := hD.base hbb hg.lt
  have p0 : W1.cell? ⟨W.heap.size, 0, none⟩ = some (.int .i64 kd) := by rw [hg.cell]; rfl
  have p1 : W1.cell? ⟨W.heap.size, 1, none⟩ = some (.int .i64 nd) := by rw [hg.cell]; rfl
  have p2 : W1.cell? ⟨W.heap.size, 2, none⟩ = some (.int .u32 hd) := by rw [hg.cell]; rfl
  have HFIN := Lib.hid (show ∀ (cnt : Int) (L2 L3 : List (List It)) (W2 : World), DX (fun k => k = W.heap.size ∨ X k) W1 g least cnt h L2 L3 W2 → DX X w0 g least cnt h L2 L3 W2 from fun cnt L2 L3 W2 h2 => hD.unbase hbb h2)
  have HCELL := Lib.hid (show ∀ (cnt : Int) (L2 L3 : List (List It)) (W2 : World), DX (fun k => k = W.heap.size ∨ X k) W1 g least cnt h L2 L3 W2 → (W2.cell? ⟨W.heap.size, 1, none⟩ = some (.int .i64 nd) ∧ W2.cell? ⟨W.heap.size, 2, none⟩ = some (.int .u32 hd)) from
    fun cnt L2 L3 W2 h2 => ⟨(h2.cell (p := ⟨W.heap.size, 1, none⟩) (.inl rfl)).trans p1, (h2.cell (p := ⟨W.heap.size, 2, none⟩) (.inl rfl)).trans p2⟩)
  have HW := Lib.hid hW1
  have HB1 := Lib.hid hB1
  have HO := Lib.hid hO
  have HK := Lib.hid hK
  have HH := Lib.hid hh
  have HND := Lib.hid hnd
  rw [← hW1] at p0 p1 p2
  clear hD hK hO hB1 hbb hg hW1 hkd hnd hh
  by_cases k0 : kd = 0
  · subst k0
    have HA := Lib.hid (d_add HB1.out HO.out hd nd HH.out HND.out)
    have HA2 := Lib.hid (show ∀ W2, DX (fun k => k = W.heap.size ∨ X k) W1 g least ((tot L : Int) + 1) h (addL L (bk hd L.length) (hd, nd)) L W2 → _ from fun W2 h2 => e_add h2 HO.out hd nd HH.out)
    have HKA := Lib.hid (HK.out.add (by omega) (hd, nd) HH.out)
    obtain ⟨b, hb⟩ : ∃ b, bk hd L.length = b := ⟨_, rfl⟩
    simp only at HKA
    rw [hb] at HA HA2 HKA
    obtain ⟨LL, hLL⟩ : ∃ z, addL L b (hd, nd) = z := ⟨_, rfl⟩
    rw [hLL] at HA HA2 HKA
    clear hb hLL HB1
    go_enter Try.func10, Try.ntmps10
    go_wp2_with fail
    rw [HW.out]
    refine HA.out.mono ?_
    rintro e w1 ⟨rfl, hS⟩
    obtain ⟨u1, u2⟩ := HCELL.out _ _ _ _ hS
    have HS := Lib.hid hS
    clear hS
    go_wp2_with fail
    refine (HA2.out _ HS.out).mono ?_
    rintro e w2 ⟨rfl, hS2⟩
    have HS2 := Lib.hid hS2
    clear hS2
    go_wp2_with fail
    go_ret
    refine ⟨ret1_b (by simp), LL, ?_, HKA.out.1⟩
    have := HFIN.out _ _ _ _ HS2.out
    rw [show ((tot LL : Nat) : Int) = (tot L : Int) + 1 by have := HKA.out.2; omega]
    exact this
  by_cases k1 : kd = 1
  · subst k1
    have HKA := Lib.hid (HK.out.rem (by omega) (hd, nd))
    simp only at HKA
    have HR1 := Lib.hid (show ∀ W2, DX (fun k => k = W.heap.size ∨ X k) W1 g least (tot L : Int) h L L W2 → _ from fun W2 h2 => d_rem h2 HO.out hd nd HH.out)
    rw [← HKA.out.2] at HR1
    obtain ⟨b, hb⟩ : ∃ b, bk hd L.length = b := ⟨_, rfl⟩
    obtain ⟨LL, hLL⟩ : ∃ z, remL L b (hd, nd) = z := ⟨_, rfl⟩
    have HR2 := Lib.hid (show ∀ W2, DX (fun k => k = W.heap.size ∨ X k) W1 g least (tot LL : Int) h LL L W2 → _ from fun W2 h2 => e_rem h2 HO.out hd nd HH.out)
    rw [hb] at HR1 HR2 HKA
    rw [hLL] at HR1 HR2 HKA
    obtain ⟨bo, hbo⟩ : ∃ z, hasI (L.getD b []) (hd, nd) = z := ⟨_, rfl⟩
    rw [hbo] at HR1 HR2
    have HS := Lib.hid (show ∀ (cnt : Int) (L2 L3 : List (List It)) (W2 : World), DX (fun k => k = W.heap.size ∨ X k) W1 g least cnt h L2 L3 W2 → ((W2.cell? ⟨W.heap.size, 1, none⟩ = some (.int .i64 nd) ∧ W2.cell? ⟨W.heap.size, 2, none⟩ = some (.int .u32 hd)) ∧ True) from fun c L2 L3 W2 h2 => ⟨HCELL.out _ _ _ _ h2, trivial⟩)
    clear hb hLL hbo
    go_enter Try.func10, Try.ntmps10
    go_wp2_with fail
    rw [HW.out]
    go_region_held3 (fun wx' => (wx'.cell? ⟨W.heap.size, 1, none⟩ = some (.int .i64 nd) ∧ wx'.cell? ⟨W.heap.size, 2, none⟩ = some (.int .u32 hd)) ∧ True) (first
      | exact HS.out _ _ _ _ HB1.out.drew
      | exact HS.out _ _ _ _ HM2.out
      | exact HS.out _ _ _ _ HM1.out
      | assumption) (first
      | (go_at_call 14
         refine (HR1.out (World.drew _) HB1.out.drew).mono ?_
         rintro e wz ⟨rfl, hm1⟩
         have HM1 := Lib.hid hm1
         clear hm1)
      | (go_at_call 29
         refine (HR2.out _ HM1.out).mono ?_
         rintro e wz2 ⟨rfl, hm2⟩
         have HM2 := Lib.hid hm2
         clear hm2)
      | fail)
    go_wp2_with fail
    go_ret
    exact ⟨ret1_b (by simp), LL, HFIN.out _ _ _ _ HM2.out, HKA.out.1⟩
  by_cases k2 : kd = 2
  · subst k2
    obtain ⟨b, hb⟩ : ∃ b, bk hd L.length = b := ⟨_, rfl⟩
    have hll : (fil hd (L.getD b [])).length ≤ 1099511627776 := by
      have h1 := List.length_filter_le (fun x : It => x.1 == hd) (L.getD b [])
      have h2 : (L.getD b []).length ≤ 65536 := by
        rw [List.getD_eq_getElem?_getD]
        rcases hh : L[b]? with _ | l'
        · simp
        · have := HO.out.2.2.2.2.1 l' (List.mem_of_getElem? hh)
          simpa using this
      unfold fil
      omega
    obtain ⟨l, hl⟩ : ∃ l, fil hd (L.getD b []) = l := ⟨_, rfl⟩
    have HC1 := Lib.hid (d_chain HB1.out HO.out hd HH.out)
    have HC2 := Lib.hid (show ∀ W2, DX (fun k => k = W.heap.size ∨ X k) W1 g least (tot L : Int) h L L W2 → _ from fun W2 h2 => e_chain h2 HO.out hd HH.out)
    rw [hb, hl] at HC1 HC2
    rw [hl] at hll
    have HLL := Lib.hid hll
    clear hb hl hll
    go_enter Try.func10, Try.ntmps10
    go_wp2_with fail
    rw [HW.out]
    refine HC1.out.mono ?_
    rintro e w1 ⟨v, rfl, ho1, hb1⟩
    obtain ⟨A, c, rfl, hr1⟩ := own_rd ho1
    have HD1 := Lib.hid (HB1.out.later hb1)
    obtain ⟨u1, u2⟩ := HCELL.out _ _ _ _ HD1.out
    have HO1 := Lib.hid ho1; have HBL1 := Lib.hid hb1; have HR1 := Lib.hid hr1
    clear ho1 hb1 hr1
    go_wp2_with fail
    refine (HC2.out _ HD1.out).mono ?_
    rintro e w2 ⟨v, rfl, ho2, hb2⟩
    obtain ⟨A', c', rfl, hr2⟩ := own_rd ho2
    have HR2 := Lib.hid hr2
    have HR3 := Lib.hid (HR1.out.below hb2)
    have HB2 := Lib.hid (HBL1.out.trans (hb2.mono HBL1.out.size))
    have HO2 := Lib.hid (ownsRow_below HO1.out hb2 (fun r hr => (HO1.out.lt r hr).2))
    clear ho2 hb2 hr2
    go_wp2_with fail
    refine (sameItems_yes A A' c c' _ _ l w2 HR3.out HR2.out HLL.out).mono ?_
    rintro e w3 ⟨rfl, d, rfl⟩
    go_wp2_with fail
    refine (overItems_any W1.heap.size _ _ _ (w2.drewN d) HO2.out).mono ?_
    rintro e w4 ⟨rfl, hg4⟩
    have HB4 := Lib.hid (ov_below (show Below W1.heap.size W1 (w2.drewN d) from HB2.out.trans ⟨rfl, rfl, rfl, Nat.le_refl _, fun _ _ => rfl⟩) HO2.out hg4)
    clear hg4
    go_wp2_with fail
    go_ret
    exact ⟨rfl, L, HFIN.out _ _ _ _ (HB1.out.later HB4.out), HK.out.more⟩
  by_cases k3 : kd = 3
  · subst k3
    by_cases hin : 0 ≤ nd ∧ nd < (L.length : Int)
    · obtain ⟨n, rfl⟩ : ∃ n : Nat, nd = (n : Int) := ⟨nd.toNat, by omega⟩
      obtain ⟨l, hl⟩ : ∃ l, L[n]? = some l := ⟨_, List.getElem?_eq_getElem (by omega)⟩
      have HLL := Lib.hid (show l.length ≤ 1099511627776 from by have := HO.out.2.2.2.2.1 l (List.mem_of_getElem? hl); omega)
      have HC1 := Lib.hid (d_at HB1.out HO.out n l hl)
      have HC2 := Lib.hid (show ∀ W2, DX (fun k => k = W.heap.size ∨ X k) W1 g least (tot L : Int) h L L W2 → _ from fun W2 h2 => e_at h2 n l hl)
      clear hl hin
      go_enter Try.func10, Try.ntmps10
      go_wp2_with fail
      rw [HW.out]
      refine HC1.out.mono ?_
      rintro e w1 ⟨v, rfl, ho1, hb1⟩
      obtain ⟨A, c, rfl, hr1⟩ := own_rd ho1
      have HD1 := Lib.hid (HB1.out.later hb1)
      obtain ⟨u1, u2⟩ := HCELL.out _ _ _ _ HD1.out
      have HO1 := Lib.hid ho1; have HBL1 := Lib.hid hb1; have HR1 := Lib.hid hr1
      clear ho1 hb1 hr1
      go_wp2_with fail
      refine (HC2.out _ HD1.out).mono ?_
      rintro e w2 ⟨A', c', rfl, hr2, rfl⟩
      have HR2 := Lib.hid hr2
      clear hr2
      go_wp2_with fail
      refine (sameItems_yes A A' c c' _ _ l w1 HR1.out HR2.out HLL.out).mono ?_
      rintro e w3 ⟨rfl, d, rfl⟩
      go_wp2_with fail
      refine (overItems_any W1.heap.size _ _ _ (w1.drewN d) HO1.out).mono ?_
      rintro e w4 ⟨rfl, hg4⟩
      have HB4 := Lib.hid (ov_below (show Below W1.heap.size W1 (w1.drewN d) from HBL1.out.trans ⟨rfl, rfl, rfl, Nat.le_refl _, fun _ _ => rfl⟩) HO1.out hg4)
      clear hg4
      go_wp2_with fail
      go_ret
      exact ⟨rfl, L, HFIN.out _ _ _ _ (HB1.out.later HB4.out), HK.out.more⟩
    · have hno : nd < 0 ∨ (L.length : Int) ≤ nd := by omega
      have HC1 := Lib.hid (d_at_no HB1.out nd hno)
      have HC2 := Lib.hid (e_at_no HB1.out nd hno)
      have HSN := Lib.hid (fun w => sameItems_yes none none 0 0 0 0 [] w (fun k x hx => by cases hx) (fun k x hx => by cases hx) (by simp))
      have HON := Lib.hid (fun w => overItems_any 0 (.slice none 0 0) 0 [] w (World.ownsRow_nil _ _ _ _))
      clear hin hno
      go_enter Try.func10, Try.ntmps10
      go_wp2_with fail
      rw [HW.out]
      refine HC1.out.mono ?_
      rintro e w1 ⟨rfl, rfl⟩
      rw [HW.out] at p1
      go_wp2_with fail
      refine HC2.out.mono ?_
      rintro e w1 ⟨rfl, rfl⟩
      go_wp2_with fail
      refine (HSN.out _).mono ?_
      rintro e w3 ⟨rfl, d, rfl⟩
      go_wp2_with fail
      refine (HON.out _).mono ?_
      rintro e w4 ⟨rfl, hg4⟩
      have HB4 := Lib.hid (show Below W1.heap.size W1 w4 from (show Below W1.heap.size W1 (W1.drewN d) from ⟨rfl, rfl, rfl, Nat.le_refl _, fun _ _ => rfl⟩).grown hg4 (Nat.le_refl _) (fun r hr => by cases hr))
      clear hg4
      go_wp2_with fail
      go_ret
      exact ⟨rfl, L, HFIN.out _ _ _ _ (HB1.out.later HB4.out), HK.out.more⟩
  by_cases k4 : kd = 4
  · subst k4
    have HKA := Lib.hid (HK.out.split (by omega))
    have HC1 := Lib.hid (d_split HB1.out HO.out)
    have HC2 := Lib.hid (show ∀ W2, DX (fun k => k = W.heap.size ∨ X k) W1 g least (tot L : Int) h (splitL L) L W2 → _ from fun W2 h2 => e_split h2 HO.out HK.out.1 (by have := HK.out.2.2.2.1; omega))
    go_enter Try.func10, Try.ntmps10
    go_wp2_with fail
    rw [HW.out]
    refine HC1.out.mono ?_
    rintro e w1 ⟨rfl, hS⟩
    have HS := Lib.hid hS
    clear hS
    go_wp2_with fail
    refine (HC2.out _ HS.out).mono ?_
    rintro e w2 ⟨rfl, hS2⟩
    have HS2 := Lib.hid hS2
    clear hS2
    go_wp2_with fail
    go_ret
    refine ⟨rfl, splitL L, ?_, HKA.out.1⟩
    have := HFIN.out _ _ _ _ HS2.out
    rw [HKA.out.2]
    exact this
  by_cases k5 : kd = 5
  · subst k5
    by_cases hle : least < L.length
    · have HKA := Lib.hid (HK.out.join (by omega) hle)
      have HC1 := Lib.hid (d_join HB1.out HO.out HK.out.2.1 hle)
      have HC2 := Lib.hid (show ∀ W2, DX (fun k => k = W.heap.size ∨ X k) W1 g least (tot L : Int) h (joinL L) L W2 → _ from fun W2 h2 => e_join h2 HO.out HK.out.2.1 hle (by have := HK.out.2.2.2.2; omega))
      go_enter Try.func10, Try.ntmps10
      go_wp2_with fail
      rw [HW.out]
      refine HC1.out.mono ?_
      rintro e w1 ⟨rfl, hS⟩
      have HS := Lib.hid hS
      clear hS
      go_wp2_with fail
      refine (HC2.out _ HS.out).mono ?_
      rintro e w2 ⟨rfl, hS2⟩
      have HS2 := Lib.hid hS2
      clear hS2
      go_wp2_with fail
      go_ret
      refine ⟨rfl, joinL L, ?_, HKA.out.1⟩
      have := HFIN.out _ _ _ _ HS2.out
      rw [HKA.out.2]
      exact this
    · have HC1 := Lib.hid (d_join_no HB1.out (by omega))
      have HC2 := Lib.hid (fun d => e_join_no (HB1.out.drewN d) (by omega))
      go_enter Try.func10, Try.ntmps10
      go_wp2_with fail
      rw [HW.out]
      refine HC1.out.mono ?_
      rintro e w1 ⟨rfl, d1, rfl⟩
      go_wp2_with fail
      refine (HC2.out _).mono ?_
      rintro e w2 ⟨rfl, d2, rfl⟩
      go_wp2_with fail
      go_ret
      exact ⟨rfl, L, HFIN.out _ _ _ _ (HB1.out.drewN _), HK.out.more⟩
  · have e0 : (kd == 0) = false := by simpa using k0
    have e1 : (kd == 1) = false := by simpa using k1
    have e2 : (kd == 2) = false := by simpa using k2
    have e3 : (kd == 3) = false := by simpa using k3
    have e4 : (kd == 4) = false := by simpa using k4
    have e5 : (kd == 5) = false := by simpa using k5
    clear k0 k1 k2 k3 k4 k5
    go_enter Try.func10, Try.ntmps10
    go_wp2_with fail
    go_ret
    rw [HW.out]
    exact ⟨rfl, L, HFIN.out _ _ _ _ HB1.out, HK.out.more⟩
end Go.Proofs.Ytjipncpplpfobaa.Lb
