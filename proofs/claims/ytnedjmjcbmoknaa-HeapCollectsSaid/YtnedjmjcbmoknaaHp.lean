/- A heap in memory; New, Used, may, each by its contract. -/
import Derived.Test.YtnedjmjcbmoknaaHpNo
import Derived.Test.YtnedjmjcbmoknaaHpSpec
import Derived.Test.YtnedjmjcbmoknaaWordUn7
namespace Go.Proofs.Ytnedjmjcbmoknaa.Hp
open Go.RowKit K At Wd Fl
set_option linter.unusedVariables false
set_option linter.unusedSimpArgs false

theorem boxed_any (x : Int) (h0 : 0 ≤ x) (h1 : x < 18446744073709551616) (w : World) :
    Calls Try.prog 35 #[.int .u64 x] w fun e w' => e = .returned (.bool (boxd x)) ∧ w' = w := by
  have hr : 0 ≤ x % 16 := by omega
  have hr' : x % 16 ≤ 15 := by omega
  go_enter Try.func35, Try.ntmps35
  go_wp2_with (go_at_call 54; refine (kind_any _ h0 h1 _).mono ?_; rintro e w1 ⟨rfl, rfl⟩)
  go_ret
  exact ⟨ret1_b (boxed_bits _ hr hr'), rfl⟩
theorem law : Go.Maps.Keyed Try.prog 3 := Go.Maps.int_keyed Try.underlying3
theorem zeroE (w : World) : (zeroValue 3).run Try.prog w = .ok (.int .i64 0) w := by kernel_rfl
def ky (k : Int) : Lit := .int .i64 k
theorem ky_ne {k j : Int} (h : k ≠ j) : ky k ≠ ky j := fun e => h (by unfold ky at e; injection e)
theorem ky_lit (k : Int) : WideAt.IsKeyLit (ky k) := by simp [ky, WideAt.IsKeyLit]
def zd : DataW Unit := .lit (.int .i64 0)
/-- What a map of numbers says of each number. -/
def HMap (D : DataW Unit) (m : Int → Int) : Prop := Maps.Tidy D ∧ ∀ p : Int, D.atKey (ky p) zd = .lit (.int .i64 (m p))
theorem HMap.nil : HMap (.map []) (kindAt []) := ⟨Maps.tidy_empty, fun p => by simp [DataW.atKey, zd, kindAt, itAt]⟩
theorem HMap.put {D : DataW Unit} {m : Int → Int} (h : HMap D m) (p k : Int) : HMap (D.put (ky p) (.lit (.int .i64 k))) (fun q => if q = p then k else m q) := by
  refine ⟨h.1.put (ky_lit p) _, fun q => ?_⟩
  by_cases e : q = p
  · subst e
    simp only [if_true]
    exact Maps.atKey_put_same h.1.isMap (ky_lit q) _ _
  · simp only [if_neg e]
    rw [Maps.atKey_put_other (ky_ne e)]
    exact h.2 q
/-- The heap at gh, its table at g; its blocks among F, the table's among FT. -/
structure Hq (w : World) (F FT : Nat → Prop) (gh g : Nat) (L : List ByteArray) (lim : Int) (W : List Int) (m : Int → Int) (v : Value) (bm N : Nat) (D : DataW Unit) : Prop where
  fl : ∀ k, F k → k < w.heap.size
  fg : F gh
  fm : F bm
  fv : ∀ r, v.ownBlock = some r → F r
  ft : ∀ k, FT k → F k
  ng : ¬ FT gh
  nm : ¬ FT bm
  nv : ∀ r, v.ownBlock = some r → ¬ FT r
  tab : Tab w FT g L
  blk : Blk w gh 62 #[.pointer (some ⟨g, 0, none⟩), .int .i64 lim, v, .map (some bm)]
  row : w.ownsRow 0 31 1 v W.length (u64s W)
  map : w.ownsMap Try.prog 3 (plainElem Try.prog 3) bm N D
  hD : HMap D m
structure HB (L : List ByteArray) (lim : Int) (H : List It) : Prop where
  wf : Wf H L.length
  lim0 : 0 ≤ lim
  lim1 : lim ≤ 16777216
  hl : ((hW H).length : Int) ≤ lim
  at4 : L.length ≤ 4096
def Hp (w : World) (F : Nat → Prop) (gh g : Nat) (L : List ByteArray) (lim : Int) (H : List It) : Prop := HB L lim H ∧ ∃ FT v bm N D, Hq w F FT gh g L lim (hW H) (kindAt H) v bm N D ∧ N ≤ 2 * (hW H).length
section
variable {w w' : World} {F FT G : Nat → Prop} {gh g : Nat} {L : List ByteArray} {lim : Int} {H : List It} {v : Value} {bm N : Nat} {D : DataW Unit} {W : List Int} {m : Int → Int}
theorem Hq.keep (h : Hq w F FT gh g L lim W m v bm N D) (hk : Keep G w w') (hn : ∀ r, F r → ¬ G r) : Hq w' F FT gh g L lim W m v bm N D :=
  ⟨fun k hf => Nat.lt_of_lt_of_le (h.fl k hf) hk.size, h.fg, h.fm, h.fv, h.ft, h.ng, h.nm, h.nv, h.tab.keep hk (fun r hr => hn r (h.ft r hr)), h.blk.keep hk (hn _ h.fg), ownsRow_keep h.row hk (fun r hr => hn r (h.fv r hr)), ownsMap_keep h.map hk (hn _ h.fm), h.hD⟩
theorem Hq.below (h : Hq w F FT gh g L lim W m v bm N D) (hb : Below w.heap.size w w') : Hq w' F FT gh g L lim W m v bm N D := h.keep (G := fun _ => False) (Keep.new hb) (fun _ _ h => h)
theorem Hp.keep (h : Hp w F gh g L lim H) (hk : Keep G w w') (hn : ∀ r, F r → ¬ G r) : Hp w' F gh g L lim H := by
  obtain ⟨hb, FT, v, bm, N, D, hq, hN⟩ := h
  exact ⟨hb, FT, v, bm, N, D, hq.keep hk hn, hN⟩
theorem Hp.below (h : Hp w F gh g L lim H) (hb : Below w.heap.size w w') : Hp w' F gh g L lim H := h.keep (G := fun _ => False) (Keep.new hb) (fun _ _ h => h)
theorem Hp.lt (h : Hp w F gh g L lim H) : ∀ k, F k → k < w.heap.size := by
  obtain ⟨hb, FT, v, bm, N, D, hq, hN⟩ := h
  exact hq.fl
theorem Hq.cells (h : Hq w F FT gh g L lim W m v bm N D) : ∃ A c, v = .slice A W.length c ∧ W.length ≤ c ∧ c ≤ maxLen ∧ w.cell? ⟨gh, 0, none⟩ = some (.pointer (some ⟨g, 0, none⟩)) ∧ w.cell? ⟨gh, 1, none⟩ = some (.int .i64 lim) ∧ w.cell? ⟨gh, 2, none⟩ = some (.slice A W.length c) ∧ w.cell? ⟨gh, 3, none⟩ = some (.map (some bm)) := by
  obtain ⟨A, c, rfl, h1, h2⟩ := ownsRow_form h.row
  exact ⟨A, c, rfl, h1, h2, by rw [h.blk.cell]; rfl, by rw [h.blk.cell]; rfl, by rw [h.blk.cell]; rfl, by rw [h.blk.cell]; rfl⟩
end
/-- Behind a call: the heap as it is then, and nothing outside its own blocks has turned. -/
def HMoved (w : World) (F : Nat → Prop) (gh g : Nat) (L : List ByteArray) (lim : Int) (H : List It) (w' : World) : Prop := ∃ F', Hp w' F' gh g L lim H ∧ (∀ k, F' k → F k ∨ w.heap.size ≤ k) ∧ Keep F w w'
theorem ret2_pi {p p' : Option Addr} {a b : Int} (h : p = p') (h' : a = b) : Ending.returned (.tuple #[.pointer p, .int .i64 a]) = .returned (.tuple #[.pointer p', .int .i64 b]) := by rw [h, h']
set_option maxRecDepth 100000 in
set_option maxHeartbeats 4000000 in
theorem new_any (g : Nat) (L : List ByteArray) (lim : Int) (w : World) (FT : Nat → Prop) (hT : Tab w FT g L) (h0 : 0 ≤ lim) (h1 : lim ≤ 16777216) :
    Calls Try.prog 22 #[.pointer (some ⟨g, 0, none⟩), .int .i64 lim] w fun e w' => ∃ gh, e = .returned (.tuple #[.pointer (some ⟨gh, 0, none⟩), .int .i64 0]) ∧ Hp w' (fun k => FT k ∨ w.heap.size ≤ k ∧ k < w'.heap.size) gh g L lim [] ∧ Below w.heap.size w w' := by
  have hmm := @run_makeMap Try.prog
  have HN := Lib.hid (name_no g L (-1) w FT hT (.inl (by decide)))
  have HT := Lib.hid hT
  clear hT
  go_enter Try.func22, Try.ntmps22
  go_wp2_with fail
  refine HN.out.mono ?_
  rintro e w' ⟨rfl, rfl⟩
  go_wp2_with fail
  go_ret2
  have hb : Below w.heap.size w ((w.alloc (.map #[] 0)).alloc (.cells #[.pointer (some ⟨g, 0, none⟩), .int .i64 lim, .slice none 0 0, .map (some w.heap.size)] 62)) := ballocs (ballocs (Below.refl _ _) _) _
  have hlt := Tab.lt_ HT.out
  have h4 : L.length ≤ 4096 := by
    obtain ⟨bm, v, D, fl, fg, fm, fv, hB, hM, hD, hR, hnd, hsz, hl4, hby⟩ := HT.out
    exact hl4
  refine ⟨w.heap.size + 1, rfl, ⟨⟨Wf.nil _, h0, h1, by simpa [hW] using h0, h4⟩, FT, .slice none 0 0, w.heap.size, 0, .map [], ⟨?_, .inr ⟨by omega, by simp⟩, .inr ⟨by omega, by simp; omega⟩, fun r hr => by simp [Value.ownBlock] at hr, fun k h => .inl h, fun h => by have := hlt _ h; omega, fun h => by have := hlt _ h; omega, fun r hr => by simp [Value.ownBlock] at hr, ?_, ?_, World.ownsRow_nil _ _ _ _, ?_, HMap.nil⟩, Nat.zero_le _⟩, hb⟩
  · rintro k (h | h)
    · exact Nat.lt_of_lt_of_le (hlt k h) hb.size
    · exact h.2
  · exact HT.out.keep (G := fun _ => False) (Keep.new hb) (fun _ _ h => h)
  · have := Blk.new (w.alloc (.map #[] 0)) 62 #[.pointer (some ⟨g, 0, none⟩), .int .i64 lim, .slice none 0 0, .map (some w.heap.size)]
    simpa using this
  · exact (World.ownsMap_made w _ _ _).alloc _
set_option maxRecDepth 100000 in
set_option maxHeartbeats 4000000 in
theorem used_any (gh g : Nat) (L : List ByteArray) (lim : Int) (H : List It) (w : World) (F : Nat → Prop) (h : Hp w F gh g L lim H) :
    Calls Try.prog 17 #[.pointer (some ⟨gh, 0, none⟩)] w fun e w' => e = .returned (.int .i64 ((hW H).length : Int)) ∧ w' = w := by
  obtain ⟨hb, FT, v, bm, N, D, hq, _⟩ := h
  obtain ⟨A, c, rfl, hc1, hc2, c0, c1, c2, c3⟩ := hq.cells
  have HN := Lib.hid (hnone_yes gh bm w c3)
  clear hq hb
  go_enter Try.func17, Try.ntmps17
  go_wp2_with fail
  refine HN.out.mono ?_
  rintro e w2 ⟨rfl, h2⟩
  obtain rfl : w = w2 := h2.symm
  go_wp2_with fail
  go_ret
  exact ⟨rfl, rfl⟩
/-! ### may -/
theorem un_range {u : Int} (h : U64 u) : (Lit.int .i64 (unK u)).wf = true ∧ (Lit.int .i64 (unN u)).wf = true ∧ 0 ≤ unK u ∧ unK u ≤ 15 ∧ -1152921504606846976 ≤ unN u ∧ unN u ≤ 1152921504606846976 := by
  have h1 : 0 ≤ unK u ∧ unK u ≤ 15 := by unfold unK; split <;> omega
  have h2 : -1152921504606846976 ≤ unN u ∧ unN u ≤ 1152921504606846976 := by
    unfold unN wordN U64 at *
    split
    · split <;> omega
    · omega
  exact ⟨WalkArith.wf_i64 (by omega), WalkArith.wf_i64 (by omega), h1.1, h1.2, h2.1, h2.2⟩
/-- Unpack, its answers named. -/
theorem unpack_as {u k n e : Int} (hu : U64 u) (hk : unK u = k) (hn : unN u = n) (he : unE u = e) (w : World) : Calls Try.prog 34 #[.int .u64 u] w fun r w' => r = .returned (.tuple #[.int .i64 k, .int .i64 n, .int .i64 e]) ∧ Below w.heap.size w w' := by
  rw [← hk, ← hn, ← he]
  exact unpack_any u hu.1 hu.2 w
theorem unE_or (u : Int) : unE u = 0 ∨ unE u = 4 := by unfold unE; split <;> simp
set_option maxRecDepth 100000 in
set_option maxHeartbeats 8000000 in
theorem may_any (gh g : Nat) (L : List ByteArray) (lim : Int) (H : List It) (w : World) (F : Nat → Prop) (h : Hp w F gh g L lim H) (A : Option Addr) (c : Nat) (ws : List Int) (hr : Reads w w.heap.size 1 A ws.length (u64s ws)) (hu : ∀ u ∈ ws, U64 u) (hlen : ws.length ≤ 1099511627776) :
    Calls Try.prog 37 #[.pointer (some ⟨gh, 0, none⟩), .slice A ws.length c] w fun e w' => e = .returned (.bool (ws.all (may H L.length))) ∧ Below w.heap.size w w' := by
  have HH := Lib.hid h
  have HR := Lib.hid hr
  have HU := Lib.hid hu
  clear h hr hu
  go_enter Try.func37, Try.ntmps37
  go_wp2_with fail
  go_loopw [12] (fun i wr => ∃ k : Nat, k ≤ ws.length ∧ i = .int .i64 (k : Int) ∧ (ws.take k).all (may H L.length) = true ∧ Below w.heap.size w wr) (fun i _ => ws.length - (intOf i).toNat)
  case atStart => exact ⟨0, Nat.zero_le _, rfl, by simp, Below.refl _ _⟩
  case round =>
    obtain ⟨k, hk, rfl, hall, hb⟩ := hrel
    have HA := Lib.hid hall
    have HB1 := Lib.hid hb
    have hz := hb.size
    clear hall
    by_cases hlt : k < ws.length
    · obtain ⟨ad, u, rfl, hadb, hu, hc⟩ := (HR.out.below hb).at_ hlt
      unfold u64s at hu
      rw [List.getElem?_map, List.getElem?_eq_getElem hlt] at hu
      injection hu with hu
      subst hu
      obtain ⟨s, hs⟩ : ∃ s, ws[k] = s := ⟨_, rfl⟩
      rw [hs] at hc
      have hsU : U64 s := by rw [← hs]; exact HU.out _ (List.getElem_mem hlt)
      have HSU := Lib.hid hsU
      have HS := Lib.hid hs
      clear hb hs hz
      obtain ⟨kk, hkk⟩ : ∃ x, unK s = x := ⟨_, rfl⟩
      obtain ⟨nn, hnn⟩ : ∃ x, unN s = x := ⟨_, rfl⟩
      obtain ⟨r1, r2, r3, r4, r5, r6⟩ := un_range hsU
      rw [hkk] at r1 r3 r4
      rw [hnn] at r2 r5 r6
      have hstep : may H L.length s = true → ((ws.take (k + 1)).all (may H L.length) = true) := fun hm => by
        have hs := HS.out
        rw [take_snoc_int (show ws[k]? = some s by rw [← hs]; exact List.getElem?_eq_getElem hlt), List.all_append, HA.out]
        simp [hm]
      have hstop : may H L.length s = false → ws.all (may H L.length) = false := fun hm => by
        have hs := HS.out
        rw [List.all_eq_false]
        exact ⟨s, by rw [← hs]; exact List.getElem_mem hlt, by simp [hm]⟩
      have HSTEP := Lib.hid hstep
      have HSTOP := Lib.hid hstop
      have HKK := Lib.hid hkk
      have HNN := Lib.hid hnn
      clear hstep hstop hsU
      by_cases he : unE s = 0
      · have HUN := Lib.hid (fun w => unpack_as (k := kk) (n := nn) (e := 0) HSU.out hkk hnn he w)
        have HE := Lib.hid he
        clear he hkk hnn
        go_wp2_with fail
        refine (HUN.out _).mono ?_
        rintro e w1 ⟨rfl, hb1⟩
        have hb01 := Lib.hid (fbelow HB1.out hb1)
        have HH1 := Lib.hid (HH.out.below hb01.out)
        have hc1 := (hb1.cell (p := ad.add k) (by rw [block_of_add]; exact Nat.lt_of_lt_of_le hadb HB1.out.size)).trans hc
        clear hb1
        by_cases hbx : boxd s = true
        · have HBX := Lib.hid hbx
          have HBOX := Lib.hid (fun w => hbx ▸ boxed_any s HSU.out.1 HSU.out.2 w)
          obtain ⟨_, FT, v, bm, N, D, hq, _⟩ := HH1.out
          obtain ⟨Av, cv, rfl, hc1', hc2', c0, c1, c2, c3⟩ := hq.cells
          have hM := hq.map
          have hkey : keyOf Try.prog 3 (.int .i64 nn) = some (.int .i64 nn) := Go.Maps.keyOf_int_mk Try.underlying3 r2
          obtain ⟨y, hy⟩ : ∃ y, kindAt H nn = y := ⟨_, rfl⟩
          have HAT := Lib.hid (show D.atKey (.int .i64 nn) (.lit (.int .i64 0)) = .lit (.int .i64 y) from by rw [← hy]; exact hq.hD.2 nn)
          have HY := Lib.hid hy
          clear hbx hy hq hc1' hc2'
          by_cases hyk : y = kk
          · have hyk' : (y != kk) = false := by simp [hyk]
            have HM := Lib.hid (show may H L.length s = true from by
              unfold may; rw [if_pos HE.out, if_pos HBX.out, HNN.out, HKK.out, HY.out]; exact decide_eq_true hyk)
            clear hyk
            go_wp2_with (first
              | (go_at_call 35; refine (HBOX.out _).mono ?_; rintro e w2 ⟨rfl, h2⟩; obtain rfl := h2.symm)
              | (at_lookup; refine wpList_lookup_own_int _ rfl _ _ 60 rfl 3 3 .i64 law Try.underlying60 Try.underlying3 (zeroE _) bm N D rfl hM _ _ rfl hkey ?_; intro cx hat hwc
                 obtain rfl : y = cx := by
                   have := HAT.out.symm.trans hat
                   simpa using this
                 clear hat hwc)
              | fail)
            go_roundw
            case rel => exact ⟨k + 1, by omega, by go_num, HSTEP.out HM.out, hb01.out⟩
            case measure => simp [intOf]; omega
          · have hyk' : (y != kk) = true := by simp [hyk]
            have HM := Lib.hid (show may H L.length s = false from by
              unfold may; rw [if_pos HE.out, if_pos HBX.out, HNN.out, HKK.out, HY.out]; exact decide_eq_false hyk)
            clear hyk
            go_wp2_with (first
              | (go_at_call 35; refine (HBOX.out _).mono ?_; rintro e w2 ⟨rfl, h2⟩; obtain rfl := h2.symm)
              | (at_lookup; refine wpList_lookup_own_int _ rfl _ _ 60 rfl 3 3 .i64 law Try.underlying60 Try.underlying3 (zeroE _) bm N D rfl hM _ _ rfl hkey ?_; intro cx hat hwc
                 obtain rfl : y = cx := by
                   have := HAT.out.symm.trans hat
                   simpa using this
                 clear hat hwc)
              | fail)
            go_ret
            exact ⟨ret1_b (HSTOP.out HM.out).symm, hb01.out⟩
        · have hbf : boxd s = false := by simpa using hbx
          have HBX := Lib.hid hbf
          have HBOX := Lib.hid (fun w => hbf ▸ boxed_any s HSU.out.1 HSU.out.2 w)
          clear hbx hbf
          by_cases h2 : kk = 2
          · subst h2
            obtain ⟨_, FT, v, bm, N, D, hq, _⟩ := HH1.out
            obtain ⟨Av, cv, rfl, hc1', hc2', c0, c1, c2, c3⟩ := hq.cells
            have hat4 := HH.out.1.at4
            obtain ⟨t, ht⟩ : ∃ t : Int, (L.length : Int) = t := ⟨_, rfl⟩
            have HLEN := Lib.hid (show Calls Try.prog 56 #[.pointer (some ⟨g, 0, none⟩)] w1 (fun e w' => e = .returned (.int .i64 t) ∧ w1 = w') from by rw [← ht]; exact len_any g L w1 FT hq.tab)
            have t0 : 0 ≤ t := by omega
            have t1 : t ≤ 4096 := by omega
            have HT := Lib.hid ht
            clear hq hc1' hc2' hat4 ht
            by_cases hn : t ≤ nn
            · have HM := Lib.hid (show may H L.length s = false from by
                unfold may; rw [if_pos HE.out, if_neg (by rw [HBX.out]; simp), if_pos HKK.out, HNN.out, HT.out]; exact decide_eq_false (by omega))
              go_wp2_with (first
                | (go_at_call 35; refine (HBOX.out _).mono ?_; rintro e w2 ⟨rfl, h2⟩; obtain rfl := h2.symm)
                | (go_at_call 56; refine HLEN.out.mono ?_; rintro e w2 ⟨rfl, rfl⟩)
                | fail)
              go_ret
              exact ⟨ret1_b (HSTOP.out HM.out).symm, hb01.out⟩
            · have hn2 : nn < t := by omega
              have HM := Lib.hid (show may H L.length s = true from by
                unfold may; rw [if_pos HE.out, if_neg (by rw [HBX.out]; simp), if_pos HKK.out, HNN.out, HT.out]; exact decide_eq_true hn2)
              clear hn
              go_wp2_with (first
                | (go_at_call 35; refine (HBOX.out _).mono ?_; rintro e w2 ⟨rfl, h2⟩; obtain rfl := h2.symm)
                | (go_at_call 56; refine HLEN.out.mono ?_; rintro e w2 ⟨rfl, rfl⟩)
                | fail)
              go_roundw
              case rel => exact ⟨k + 1, by omega, by go_num, HSTEP.out HM.out, hb01.out⟩
              case measure => simp [intOf]; omega
          · have h2' : (kk == 2) = false := by simpa using h2
            have hmk : ∀ b, b = !decide (kk = 0 ∨ 10 ≤ kk) → may H L.length s = b := fun b hb => by
              unfold may; rw [if_pos HE.out, if_neg (by rw [HBX.out]; simp), if_neg (by rw [HKK.out]; exact h2), HKK.out]; exact hb.symm
            have HMK := Lib.hid hmk
            clear hmk h2
            by_cases hk0 : kk = 0
            · have HM := Lib.hid (HMK.out false (by simp [hk0]))
              subst hk0
              go_wp2_with (first
                | (go_at_call 35; refine (HBOX.out _).mono ?_; rintro e w2 ⟨rfl, h2⟩; obtain rfl := h2.symm)
                | fail)
              go_ret
              exact ⟨ret1_b (HSTOP.out HM.out).symm, hb01.out⟩
            · have hk0' : (kk == 0) = false := by simpa using hk0
              by_cases hk1 : 10 ≤ kk
              · have HM := Lib.hid (HMK.out false (by simp [hk1]))
                clear hk0
                go_wp2_with (first
                  | (go_at_call 35; refine (HBOX.out _).mono ?_; rintro e w2 ⟨rfl, h2⟩; obtain rfl := h2.symm)
                  | fail)
                go_ret
                exact ⟨ret1_b (HSTOP.out HM.out).symm, hb01.out⟩
              · have HM := Lib.hid (HMK.out true (by simp [hk0, hk1]))
                have hk2 : kk < 10 := by omega
                clear hk0 hk1
                go_wp2_with (first
                  | (go_at_call 35; refine (HBOX.out _).mono ?_; rintro e w2 ⟨rfl, h2⟩; obtain rfl := h2.symm)
                  | fail)
                go_roundw
                case rel => exact ⟨k + 1, by omega, by go_num, HSTEP.out HM.out, hb01.out⟩
                case measure => simp [intOf]; omega
      · have he4 : unE s = 4 := by rcases unE_or s with h | h; exact absurd h he; exact h
        have HUN := Lib.hid (fun w => unpack_as (k := kk) (n := nn) (e := 4) HSU.out hkk hnn he4 w)
        have HM := Lib.hid (show may H L.length s = false from by unfold may; rw [if_neg he])
        clear he he4 hkk hnn
        go_wp2_with fail
        refine (HUN.out _).mono ?_
        rintro e w1 ⟨rfl, hb1⟩
        have hb01 := Lib.hid (fbelow HB1.out hb1)
        clear hb1
        go_wp2_with fail
        go_ret
        exact ⟨ret1_b (HSTOP.out HM.out).symm, hb01.out⟩
    · obtain rfl : k = ws.length := by omega
      have HX := Lib.hid (show ws.all (may H L.length) = true from by have := HA.out; rwa [List.take_length] at this)
      clear hb hz
      go_wp2_with fail
      go_ret
      exact ⟨ret1_b HX.out.symm, HB1.out⟩
end Go.Proofs.Ytnedjmjcbmoknaa.Hp
