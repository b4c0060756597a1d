/- lay, Tuple, Cons, Parts, Words, where they succeed; each by its contract. Tuple, Cons, Parts, Words, where they succeed; each by its contract. -/
import Derived.Test.YtnedjmjcbmoknaaHpMvA
import Derived.Test.YtnedjmjcbmoknaaHpGetA
import Derived.Test.YtnedjmjcbmoknaaCloneU64
namespace Go.Proofs.Ytnedjmjcbmoknaa.Hp
open Go.RowKit K At Wd Fl
set_option linter.unusedVariables false
set_option linter.unusedSimpArgs false
theorem Reads.keepA {w w' : World} {K : Nat → Prop} {B n : Nat} {A : Option Addr} {xs : List Value} (h : Reads w B 1 A n xs) (hB : B ≤ w.heap.size) (hk : Keep K w w') (hA : ∀ a, A = some a → ¬ K a.block) : Reads w' w'.heap.size 1 A n xs :=
  ⟨h.1, fun h0 => by
    obtain ⟨ad, e, hb, hc⟩ := h.2 h0
    exact ⟨ad, e, by have := hk.size; omega, fun j u hu => by
      rw [hk.cell (by rw [block_of_add]; omega) (by rw [block_of_add]; exact hA ad e)]
      exact hc j u hu⟩⟩
section
variable {w w2 w' : World} {F FT : Nat → Prop} {gh g : Nat} {L : List ByteArray} {lim : Int} {W W' : List Int} {m : Int → Int} {v v' : Value} {bm N : Nat} {D : DataW Unit}
theorem Hq.push (h : Hq w F FT gh g L lim W m v bm N D) (hk : Keep (fun b => v.ownBlock = some b) w w2) (hR : w2.ownsRow 0 31 1 v' W'.length (u64s W')) (hat : ∀ r, v'.ownBlock = some r → v.ownBlock = some r ∨ w.heap.size ≤ r) :
    Hq (w2.setCell ⟨gh, 2, none⟩ v') (fun k => F k ∨ v'.ownBlock = some k) FT gh g L lim W' m v' bm N D ∧ Keep F w (w2.setCell ⟨gh, 2, none⟩ v') := by
  have hvg : v.ownBlock ≠ some gh := own_blk_ne h.row h.blk (by decide)
  have hvm : v.ownBlock ≠ some bm := map_row_ne h.map h.row
  have hgl := h.fl _ h.fg
  have hsz := hk.size
  have e0 : (w2.setCell ⟨gh, 2, none⟩ v').heap.size = w2.heap.size := by simp [World.setCell]
  have hs : Keep (fun b => b = gh) w2 (w2.setCell ⟨gh, 2, none⟩ v') := (Keep.refl (fun b => b = gh) w2).setCell (p := ⟨gh, 2, none⟩) (.inl rfl) _
  have hv' : ∀ r, v'.ownBlock = some r → r ≠ gh ∧ ¬ FT r := fun r hr => by
    rcases hat r hr with e | e
    · exact ⟨fun e' => hvg (by rw [e, e']), h.nv r e⟩
    · exact ⟨by omega, fun hf => by have := h.fl _ (h.ft _ hf); omega⟩
  refine ⟨⟨fun k hk' => ?_, .inl h.fg, .inl h.fm, fun r hr => .inr hr, fun k hf => .inl (h.ft k hf), h.ng, h.nm, fun r hr => (hv' r hr).2, ?_, ?_, ?_, ?_, h.hD⟩, ?_⟩
  · rw [e0]
    rcases hk' with h1 | h1
    · exact Nat.lt_of_lt_of_le (h.fl k h1) hsz
    · exact (hR.lt k h1).2
  · exact (h.tab.keep hk (fun r hr e => h.nv r e hr)).keep hs (fun r hr e => h.ng (e ▸ hr))
  · have := (h.blk.keep hk (fun e => hvg e)).set_ 2 v'
    simpa using this
  · exact ownsRow_keep hR hs (fun r hr => (hv' r hr).1)
  · exact ownsMap_keep (ownsMap_keep h.map hk (fun e => hvm e)) hs (fun e => map_blk_ne h.map h.blk e)
  · exact (hk.mono (fun i _ e => h.fv i e)).setCell (p := ⟨gh, 2, none⟩) (.inl h.fg) _
theorem Hq.is_ (h : Hq w F FT gh g L lim W m v bm N D) (p k : Int) (hg : w.grownBy w' (some bm)) (hM : w'.ownsMap Try.prog 3 (plainElem Try.prog 3) bm (N + 1) (D.put (.int .i64 p) (.lit (.int .i64 k)))) :
    Hq w' F FT gh g L lim W (fun q => if q = p then k else m q) v bm (N + 1) (D.put (.int .i64 p) (.lit (.int .i64 k))) ∧ Keep F w w' := by
  have hk : Keep (fun b => b = bm) w w' := (Keep.refl _ w).grown hg (fun k hk => by injection hk with hk; exact .inl hk.symm)
  have hbv : v.ownBlock ≠ some bm := map_row_ne h.map h.row
  exact ⟨⟨fun k hf => Nat.lt_of_lt_of_le (h.fl k hf) hk.size, h.fg, h.fm, h.fv, h.ft, h.ng, h.nm, h.nv, h.tab.keep hk (fun k hk e => h.nm (e ▸ hk)), h.blk.keep hk (fun e => map_blk_ne h.map h.blk e.symm), ownsRow_keep h.row hk (fun k hk e => hbv (by rw [hk, e])), hM, h.hD.put p k⟩, hk.mono (fun i _ e => e ▸ h.fm)⟩
end
theorem HMoved.pre {w w1 w' : World} {F : Nat → Prop} {gh g : Nat} {L : List ByteArray} {lim : Int} {H : List It} (hb : Below w.heap.size w w1) (h : HMoved w1 F gh g L lim H w') : HMoved w F gh g L lim H w' := by
  obtain ⟨F', h1, h2, h3⟩ := h
  exact ⟨F', h1, fun k hk => by
    rcases h2 k hk with e | e
    · exact .inl e
    · exact .inr (Nat.le_trans hb.size e), (Keep.new (F := F) hb).trans h3 (fun i hi hf => hf)⟩
/-- What laying has, and leaves. -/
theorem lay_in {w : World} {F : Nat → Prop} {gh g : Nat} {L : List ByteArray} {lim : Int} {H : List It} {x : It} (h : Hp w F gh g L lim H) (hx : ItOk x) (hwf : ∀ u ∈ x.ws, U64 u ∧ may H L.length u = true) {Ah A : Option Addr} {hn ch nw c : Nat} (hnw : x.ws.length = nw) (hr1 : Reads w w.heap.size 1 Ah hn (u64s (hd x.k x.n x.ws.length))) (hA1 : ∀ a, Ah = some a → ¬ F a.block) (hr2 : Reads w w.heap.size 1 A nw (u64s x.ws)) (hA2 : ∀ a, A = some a → ¬ F a.block) (hfit : ((hW H).length : Int) + ((itW x).length : Int) ≤ lim) :
    ∃ (Av : Option Addr) (nl cv : Nat) (A2 : Option Addr) (c2 : Nat) (w2 : World) (A3 : Option Addr) (c3 : Nat) (w3 : World) (bm N : Nat) (D : DataW Unit), (hW H).length = nl ∧ (nl : Int) + (hn : Int) + (nw : Int) ≤ lim ∧ lim ≤ 16777216 ∧ hn + nw ≤ 65 ∧ w.cell? ⟨gh, 2, none⟩ = some (.slice Av nl cv) ∧ w.cell? ⟨gh, 1, none⟩ = some (.int .i64 lim) ∧ gh < w.heap.size ∧
      RowKit.Hid ((Builtin.append_ #[39, 39] 39 #[.slice Av nl cv, .slice Ah hn ch]).run Try.prog w = .ok (.slice A2 (nl + hn) c2) w2) ∧
      RowKit.Hid ((Builtin.append_ #[39, 39] 39 #[.slice A2 (nl + hn) c2, .slice A nw c]).run Try.prog w2 = .ok (.slice A3 (nl + hn + nw) c3) w3) ∧
      w3.cell? ⟨gh, 2, none⟩ = some (.slice Av nl cv) ∧ w3.frozen? ⟨gh, 2, none⟩ = false ∧ gh < w3.heap.size ∧ (w3.setCell ⟨gh, 2, none⟩ (.slice A3 (nl + hn + nw) c3)).cell? ⟨gh, 3, none⟩ = some (.map (some bm)) ∧ (w3.setCell ⟨gh, 2, none⟩ (.slice A3 (nl + hn + nw) c3)).ownsMap Try.prog 3 (plainElem Try.prog 3) bm N D ∧ N < maxLen ∧
      RowKit.Hid (∀ w7 w8, (w3.setCell ⟨gh, 2, none⟩ (.slice A3 (nl + hn + nw) c3)).grownBy w7 (some bm) → w7.ownsMap Try.prog 3 (plainElem Try.prog 3) bm (N + 1) (D.put (.int .i64 (nl : Int)) (.lit (.int .i64 x.k))) → Below w7.heap.size w7 w8 → HMoved w F gh g L lim (H ++ [x]) w8) := by
  have hx64 := hx.len
  have hhn : hn = (hd x.k x.n x.ws.length).length := by have := hr1.1; unfold u64s at this; simpa using this.symm
  have hiw : (itW x).length = hn + nw := by rw [hhn, ← hnw]; unfold itW; rw [List.length_append]
  have hln : hn + nw ≤ 65 := by
    have := hd_len x.k x.n x.ws.length
    split at this <;> omega
  obtain ⟨hB, FT, v, bm, N, D, hq, hN⟩ := h
  have hlim1 := hB.lim1
  have hhl := hB.hl
  obtain ⟨Av, cv, rfl, hc1, hc2, c0, c1, c2, c3⟩ := hq.cells
  obtain ⟨nl, hnl⟩ : ∃ nl, (hW H).length = nl := ⟨_, rfl⟩
  have hrow := hq.row
  rw [hnl] at hrow hfit hhl c2 hc1
  obtain ⟨i0, hi, hy0, hy1, hy2⟩ := info_parts infoW
  obtain ⟨v2, w2, hrun2, hR2, hg2, hat2⟩ := run_append_any (P := Try.prog) w 0 39 39 31 i0 _ 1 8 Try.underlying39 hi hy0 hy1 hy2 rfl (by decide) (.slice Av nl cv) nl (u64s (hW H)) hrow _ Ah hn ch _ hr1 (u64s_one _) (by unfold maxLen; omega) (by omega) (Nat.zero_le _)
  have hk12 : Keep (fun b => (Value.slice Av nl cv).ownBlock = some b) w w2 := (Keep.refl _ w).grown hg2 (fun k hk => .inl hk)
  have hfv : ∀ r, (Value.slice Av nl cv).ownBlock = some r → F r := fun r hr => hq.fv r (by rw [hnl]; exact hr)
  have hr22 := Reads.keepA hr2 (Nat.le_refl _) hk12 (fun a ha e => hA2 a ha (hfv _ e))
  obtain ⟨A2, cc2, rfl, _, _⟩ := ownsRow_form hR2
  obtain ⟨v3, w3, hrun3, hR3, hg3, hat3⟩ := run_append_any (P := Try.prog) w2 0 39 39 31 i0 _ 1 8 Try.underlying39 hi hy0 hy1 hy2 rfl (by decide) (.slice A2 (nl + hn) cc2) (nl + hn) _ hR2 _ A nw c _ hr22 (u64s_one _) (by unfold maxLen; omega) (by omega) (Nat.zero_le _)
  obtain ⟨A3, cc3, rfl, _, _⟩ := ownsRow_form hR3
  have hat2' : ∀ r, (Value.slice A2 (nl + hn) cc2).ownBlock = some r → (Value.slice Av nl cv).ownBlock = some r ∨ w.heap.size ≤ r := fun r hr => by
    rcases hat2 with e | e
    · rw [e] at hr; exact .inl hr
    · rw [e] at hr; injection hr with hr; exact .inr (by omega)
  have hat3' : ∀ r, (Value.slice A3 (nl + hn + nw) cc3).ownBlock = some r → (Value.slice Av nl cv).ownBlock = some r ∨ w.heap.size ≤ r := fun r hr => by
    rcases hat3 with e | e
    · rw [e] at hr; exact hat2' r hr
    · rw [e] at hr; injection hr with hr; exact .inr (by have := hk12.size; omega)
  have hk13 : Keep (fun b => (Value.slice Av nl cv).ownBlock = some b) w w3 := hk12.grown hg3 (fun r hr => hat2' r hr)
  have hw' : u64s (hW H) ++ u64s (hd x.k x.n x.ws.length) ++ u64s x.ws = u64s (hW (H ++ [x])) := by
    rw [hW_append, hW_one]
    unfold u64s itW
    rw [List.map_append, List.map_append, List.append_assoc]
  have hwl : nl + hn + nw = (hW (H ++ [x])).length := by rw [hW_append, hW_one, List.length_append, hnl, hiw]; omega
  rw [hw'] at hR3
  obtain ⟨hq4, hk4⟩ := hq.push (v' := .slice A3 (nl + hn + nw) cc3) (W' := hW (H ++ [x])) (by rw [hnl]; exact hk13) (by rw [← hwl]; exact hR3) (fun r hr => by rw [hnl]; exact hat3' r hr)
  have hb3 := hq.blk.keep hk13 (fun e => own_blk_ne hq.row hq.blk (by decide) (by rw [hnl]; exact e))
  rw [hnl] at hb3
  refine ⟨Av, nl, cv, A2, cc2, w2, A3, cc3, w3, bm, N, D, hnl, by omega, hlim1, hln, c2, c1, hq.blk.lt, Lib.hid hrun2, Lib.hid hrun3, hb3.cell 2, hb3.frozen 2, hb3.lt, hq4.blk.cell 3, hq4.map, by unfold maxLen; omega, Lib.hid (fun w7 w8 hg7 hM7 hb8 => ?_)⟩
  obtain ⟨hq7, hk7⟩ := hq4.is_ (nl : Int) x.k hg7 hM7
  refine ⟨fun k => F k ∨ (Value.slice A3 (nl + hn + nw) cc3).ownBlock = some k, ⟨?_, FT, .slice A3 (nl + hn + nw) cc3, bm, N + 1, D.put (.int .i64 (nl : Int)) (.lit (.int .i64 x.k)), ?_, ?_⟩, fun k hk => ?_, ?_⟩
  · refine ⟨hB.wf.app (Nat.le_refl _) (fun y hy => ?_), hB.lim0, hB.lim1, ?_, hB.at4⟩
    · simp at hy; subst hy
      exact ⟨hx, fun u hu => ⟨(hwf u hu).1, may_more (hwf u hu).2 _ (Nat.le_refl _)⟩⟩
    · rw [← hwl]; omega
  · have h7 := hq7.below hb8
    have e := kindAt_snoc hB.wf.pos x
    rw [show kindAt (H ++ [x]) = fun q => if q = (nl : Int) then x.k else kindAt H q from by funext q; rw [e, hnl]]
    exact h7
  · have hp := hx.pos
    rw [← hwl]
    omega
  · rcases hk with h | h
    · exact .inl h
    · rcases hat3' k h with e | e
      · exact .inl (hfv k e)
      · exact .inr e
  · exact (hk4.trans hk7 (fun i hi hf => by
      rcases hf with h | h
      · exact h
      · rcases hat3' i h with e | e
        · exact hfv i e
        · omega)).trans (Keep.new (F := F) hb8) (fun i hi h => h)
theorem ret2_wi' {a b c d : Int} (h : a = c) (h' : b = d) : Ending.returned (.tuple #[.int .u64 a, .int .i64 b]) = .returned (.tuple #[.int .u64 c, .int .i64 d]) := by rw [h, h']
theorem packE_box {k : Int} {n : Nat} (hk : boxK k) (hn : n ≤ 16777216) : packE k (n : Int) = 0 := by
  unfold boxK at hk
  obtain ⟨g1, g2⟩ := high_num (k := k) (by omega)
  unfold packE
  rw [if_pos (by unfold isK; exact decide_eq_true (by omega)), if_pos (by unfold fits; exact decide_eq_true ⟨by rw [g1]; omega, by rw [g2]; omega, fun e => by omega⟩)]
set_option maxRecDepth 100000 in
set_option maxHeartbeats 800000 in
theorem lay_ok (gh g : Nat) (L : List ByteArray) (lim : Int) (H : List It) (x : It) (w : World) (F : Nat → Prop) (h : Hp w F gh g L lim H) (hx : ItOk x) (hwf : ∀ u ∈ x.ws, U64 u ∧ may H L.length u = true) (Ah A : Option Addr) (hn ch nw c : Nat) (k : Int) (hk : x.k = k) (hnw : x.ws.length = nw) (hr1 : Reads w w.heap.size 1 Ah hn (u64s (hd x.k x.n x.ws.length))) (hA1 : ∀ a, Ah = some a → ¬ F a.block) (hr2 : Reads w w.heap.size 1 A nw (u64s x.ws)) (hA2 : ∀ a, A = some a → ¬ F a.block) (hfit : ((hW H).length : Int) + ((itW x).length : Int) ≤ lim) :
    Calls Try.prog 31 #[.pointer (some ⟨gh, 0, none⟩), .int .i64 k, .slice Ah hn ch, .slice A nw c] w fun e w' => e = .returned (.tuple #[.int .u64 (packW k ((hW H).length : Int)), .int .i64 0]) ∧ HMoved w F gh g L lim (H ++ [x]) w' := by
  have HMY := Lib.hid (show Calls Try.prog 37 #[.pointer (some ⟨gh, 0, none⟩), .slice A nw c] w (fun e w' => e = .returned (.bool true) ∧ Below w.heap.size w w') from by
    have h1 := may_any gh g L lim H w F h A c x.ws (by rw [hnw]; exact hr2) (fun u hu => (hwf u hu).1) (by have := hx.len; omega)
    rwa [List.all_eq_true.2 (fun u hu => (hwf u hu).2), hnw] at h1)
  have HIN := Lib.hid (fun w1 (hb : Below w.heap.size w w1) => lay_in (c := c) (ch := ch) (h.below hb) hx hwf hnw ((hr1.below hb).more hb.size) hA1 ((hr2.below hb).more hb.size) hA2 hfit)
  have hbox := hx.box
  rw [hk] at hbox
  have wfk : (Lit.int .i64 k).wf = true := by unfold boxK at hbox; exact WalkArith.wf_i64 (by omega)
  have HBX := Lib.hid hbox; have HK := Lib.hid hk
  obtain ⟨hB, FT, v, bm, N, D, hq, hN⟩ := h
  obtain ⟨Av, cv, rfl, hc1, hc2, c0, c1, c2, c3⟩ := hq.cells
  obtain ⟨nl, hnl⟩ : ∃ nl, (hW H).length = nl := ⟨_, rfl⟩
  rw [hnl] at c2 ⊢
  have hgl := hq.blk.lt
  have HNL := Lib.hid hnl
  clear hB hq hN hc1 hc2 c0 c1 c3 hr1 hA1 hr2 hA2 hx hwf hbox hk hfit hnw hnl
  go_enter Try.func31, Try.ntmps31
  go_wp2_with fail
  refine HMY.out.mono ?_
  rintro e w1 ⟨rfl, hb1⟩
  obtain ⟨Av1, nl1, cv1, A2, c2', w2, A3, c3, w3, bm1, N1, D1, e1, hfit, hlim, hln, q2, q1, hgl1, HRUN2, HRUN3, z2, zf, zl, z3, hM4, hNm, HEND⟩ := HIN.out w1 hb1
  obtain rfl : nl = nl1 := HNL.out.symm.trans e1
  have hl0 : nl ≤ 16777216 := by omega
  have wfl : (Lit.int .i64 (nl : Int)).wf = true := WalkArith.wf_i64 (by omega)
  have HPK := Lib.hid (fun w => show Calls Try.prog 36 #[.int .i64 k, .int .i64 (nl : Int)] w (fun e w' => e = .returned (.tuple #[.int .u64 (packW k (nl : Int)), .int .i64 0]) ∧ Below w.heap.size w w') from by
    have h1 := pack_any k (nl : Int) wfk wfl w
    rwa [packE_box HBX.out hl0] at h1)
  have hkeyL : keyOf Try.prog 3 (.int .i64 (nl : Int)) = some (.int .i64 (nl : Int)) := Go.Maps.keyOf_int_mk Try.underlying3 wfl
  have HB1 := Lib.hid hb1
  clear e1 hb1 c2
  go_wp2_with (first
    | (at_builtin; refine wpList_append_run (o := ⟨some 40, _, _, _, _, _⟩) (.tmp 38) (.tmp 39) 39 _ _ _ HRUN2.out rfl rfl (by simp [Act.eval, Act.put]) (by simp [Act.eval, Act.put]) ?_)
    | (at_builtin; refine wpList_append_run (o := ⟨some 42, _, _, _, _, _⟩) (.tmp 40) (.tmp 41) 39 _ _ _ HRUN3.out rfl rfl (by simp [Act.eval, Act.put]) (by simp [Act.eval, Act.put]) ?_)
    | (at_mapUpdate; refine wpList_mapUpdate_own _ rfl _ _ _ 60 rfl 3 3 law Try.underlying60 _ bm1 N1 D1 rfl hM4 hNm _ _ _ rfl rfl hkeyL _ [] (plainElem_int Try.underlying3 wfk) ?_; intro w7 hM7 hg7
       have HMG := Lib.hid (And.intro hg7 hM7)
       clear hM7 hg7)
    | fail)
  refine (HPK.out w7).mono ?_
  rintro e w8 ⟨rfl, hb8⟩
  have HB8 := Lib.hid hb8
  clear hb8 hM4 q1 q2 z2 zf z3
  go_wp2_with fail
  go_ret2
  exact ⟨ret2_wi' rfl rfl, HMoved.pre HB1.out (HEND.out w7 w8 HMG.out.1 (by rw [HK.out]; exact HMG.out.2) HB8.out)⟩
set_option maxRecDepth 100000 in
set_option maxHeartbeats 800000 in
theorem tuple_ok (gh g : Nat) (L : List ByteArray) (lim : Int) (H : List It) (ws : List Int) (w : World) (F : Nat → Prop) (h : Hp w F gh g L lim H) (n c : Nat) (hn : ws.length = n) (h64 : n ≤ 64) (hwf : ∀ u ∈ ws, U64 u ∧ may H L.length u = true) (A : Option Addr) (hr : Reads w w.heap.size 1 A n (u64s ws)) (hA : ∀ a, A = some a → ¬ F a.block) (hfit : ((hW H).length : Int) + 1 + (n : Int) ≤ lim) :
    Calls Try.prog 19 #[.pointer (some ⟨gh, 0, none⟩), .slice A n c] w fun e w' => e = .returned (.tuple #[.int .u64 (packW 7 ((hW H).length : Int)), .int .i64 0]) ∧ HMoved w F gh g L lim (H ++ [⟨7, 0, ws⟩]) w' := by
  have hx : ItOk ⟨7, 0, ws⟩ := ⟨(by show boxK 7; decide), (fun e => absurd (show (7 : Int) = 9 from e) (by decide)), (fun _ => rfl), (fun e => absurd (show (7 : Int) = 5 from e) (by decide)), by show ws.length ≤ 64; omega⟩
  have HLY := Lib.hid (fun w1 (hb : Below w.heap.size w w1) (y : Int) (hy : packW 10 (n : Int) = y) => by
    have hr1 : Reads (w1.alloc (.cells #[.int .u64 y] 31)) (w1.alloc (.cells #[.int .u64 y] 31)).heap.size 1 (some ⟨w1.heap.size, 0, none⟩) 1 (u64s (hd 7 0 n)) := by
      rw [show hd 7 0 n = [y] from by unfold hd; rw [if_pos rfl, hy]]
      exact one_reads w1 y
    have hb2 : Below w1.heap.size w1 (w1.alloc (.cells #[.int .u64 y] 31)) := ballocs (Below.refl _ _) _
    have hbb := fbelow hb hb2
    exact lay_ok gh g L lim H ⟨7, 0, ws⟩ (w1.alloc (.cells #[.int .u64 y] 31)) F (h.below hbb) hx hwf (some ⟨w1.heap.size, 0, none⟩) A 1 1 n c 7 rfl hn (by rw [hn]; exact hr1) (fun a ha hf => by injection ha with ha; subst ha; have := h.lt _ hf; have := hb.size; simp only at *; omega) ((hr.below hbb).more hbb.size) hA (by
      have := itW_len (⟨7, 0, ws⟩ : It)
      rw [if_pos (.inl rfl)] at this
      simp only at this
      omega))
  obtain ⟨_, FT, v, bm, N, D, hq, _⟩ := id h
  obtain ⟨Av, cv, rfl, hc1, hc2, c0, c1, c2, c3⟩ := hq.cells
  have HNO := Lib.hid (hnone_yes gh bm w c3)
  obtain ⟨y, hy⟩ : ∃ y, packW 10 (n : Int) = y := ⟨_, rfl⟩
  have HPK := Lib.hid (show ∀ w, Calls Try.prog 36 #[.int .i64 10, .int .i64 (n : Int)] w (fun e w' => e = .returned (.tuple #[.int .u64 y, .int .i64 0]) ∧ Below w.heap.size w w') from fun w => by
    have h1 := pack_any 10 (n : Int) (by decide) (WalkArith.wf_i64 (by omega)) w
    rw [hy] at h1
    rwa [show packE 10 (n : Int) = 0 from by
      unfold packE
      rw [if_pos (by decide), if_pos (by unfold fits; exact decide_eq_true ⟨by show (0 : Int) ≤ _; omega, by show _ ≤ (64 : Int); omega, fun e => absurd e (by decide)⟩)]] at h1)
  have HY := Lib.hid hy
  have hni : (n : Int) ≤ 64 := by omega
  clear hq c0 c1 c2 c3 hc1 hc2 hx hy h hwf hr hA hfit hn h64
  go_enter Try.func19, Try.ntmps19
  go_wp2_with fail
  refine HNO.out.mono ?_
  rintro e w1 ⟨rfl, h1⟩
  obtain rfl : w = w1 := h1.symm
  go_wp2_with fail
  refine (HPK.out _).mono ?_
  rintro e w1 ⟨rfl, hb1⟩
  have HB1 := Lib.hid hb1
  clear hb1
  go_wp2_with fail
  refine (HLY.out w1 HB1.out y HY.out).mono ?_
  rintro e w2 ⟨rfl, hm⟩
  have HM := Lib.hid hm
  clear hm
  go_wp2_with fail
  go_ret2
  exact ⟨ret2_wi' rfl rfl, HMoved.pre (fbelow HB1.out (ballocs (Below.refl _ _) _)) HM.out⟩
theorem two_reads (w : World) (x y : Int) : Reads (w.alloc (.cells #[.int .u64 x, .int .u64 y] 31)) (w.alloc (.cells #[.int .u64 x, .int .u64 y] 31)).heap.size 1 (some ⟨w.heap.size, 0, none⟩) 2 (u64s [x, y]) :=
  ⟨rfl, fun _ => ⟨_, rfl, by simp, fun j u hj => by
    have hb := Blk.new w 31 #[.int .u64 x, .int .u64 y]
    match j with
    | 0 => simp [u64s] at hj; subst hj; exact hb.cell 0
    | 1 => simp [u64s] at hj; subst hj; exact hb.cell 1
    | j + 2 => simp [u64s] at hj⟩⟩
set_option maxRecDepth 100000 in
set_option maxHeartbeats 800000 in
theorem cons_ok (gh g : Nat) (L : List ByteArray) (lim : Int) (H : List It) (a b : Int) (w : World) (F : Nat → Prop) (h : Hp w F gh g L lim H) (hwf : ∀ u ∈ [a, b], U64 u ∧ may H L.length u = true) (hfit : ((hW H).length : Int) + 2 ≤ lim) :
    Calls Try.prog 10 #[.pointer (some ⟨gh, 0, none⟩), .int .u64 a, .int .u64 b] w fun e w' => e = .returned (.tuple #[.int .u64 (packW 9 ((hW H).length : Int)), .int .i64 0]) ∧ HMoved w F gh g L lim (H ++ [⟨9, 0, [a, b]⟩]) w' := by
  have hx : ItOk ⟨9, 0, [a, b]⟩ := ⟨(by show boxK 9; decide), (fun _ => ⟨rfl, rfl⟩), (fun e => absurd (show (9 : Int) = 7 from e) (by decide)), (fun e => absurd (show (9 : Int) = 5 from e) (by decide)), by show 2 ≤ 64; omega⟩
  have hb2 : Below w.heap.size w (w.alloc (.cells #[.int .u64 a, .int .u64 b] 31)) := ballocs (Below.refl _ _) _
  have HLY := Lib.hid (lay_ok gh g L lim H ⟨9, 0, [a, b]⟩ _ F (h.below hb2) hx hwf none (some ⟨w.heap.size, 0, none⟩) 0 0 2 2 9 rfl rfl Reads.none_ (fun a ha => by cases ha) (two_reads w a b) (fun a ha hf => by injection ha with ha; subst ha; have := h.lt _ hf; simp only at this; omega) (by
      have := itW_len (⟨9, 0, [a, b]⟩ : It)
      rw [if_neg (by show ¬ ((9 : Int) = 7 ∨ (9 : Int) = 5); decide)] at this
      simp only [List.length_cons, List.length_nil] at this
      omega))
  have HB2 := Lib.hid hb2
  obtain ⟨_, FT, v, bm, N, D, hq, _⟩ := id h
  obtain ⟨Av, cv, rfl, hc1, hc2, c0, c1, c2, c3⟩ := hq.cells
  have HNO := Lib.hid (hnone_yes gh bm w c3)
  clear hq c0 c1 c2 c3 hc1 hc2 hx h hwf hfit hb2
  go_enter Try.func10, Try.ntmps10
  go_wp2_with fail
  refine HNO.out.mono ?_
  rintro e w1 ⟨rfl, h1⟩
  obtain rfl : w = w1 := h1.symm
  go_wp2_with fail
  refine HLY.out.mono ?_
  rintro e w2 ⟨rfl, hm⟩
  have HM := Lib.hid hm
  clear hm
  go_wp2_with fail
  go_ret2
  exact ⟨ret2_wi' rfl rfl, HMoved.pre HB2.out HM.out⟩
set_option maxRecDepth 100000 in
set_option maxHeartbeats 800000 in
/-- Parts of a word that may be. -/
theorem hparts_ok (gh g : Nat) (L : List ByteArray) (lim : Int) (H : List It) (u : Int) (w : World) (F : Nat → Prop) (h : Hp w F gh g L lim H) (hu : U64 u) (hm : may H L.length u = true) (ws : List Int) (hws : ws = if boxd u = true then (itm H (unN u)).ws else []) :
    Calls Try.prog 20 #[.pointer (some ⟨gh, 0, none⟩), .int .u64 u] w fun e w' => ∃ A c, e = .returned (.tuple #[.slice A ws.length c, .int .i64 0]) ∧ w'.ownsRow w.heap.size 31 1 (.slice A ws.length c) ws.length (u64s ws) ∧ Below w.heap.size w w' := by
  have hb2 : Below w.heap.size w (w.alloc (.cells #[.int .u64 u] 31)) := ballocs (Below.refl _ _) _
  have HMY := Lib.hid (may_one gh g L lim H (w.alloc (.cells #[.int .u64 u] 31)) F (h.below hb2) w.heap.size u ((Blk.new w 31 #[.int .u64 u]).cell 0) hu)
  rw [hm] at HMY
  have HH := Lib.hid h
  have HB2 := Lib.hid hb2
  obtain ⟨_, FT, v, bm, N, D, hq, _⟩ := id h
  obtain ⟨Av, cv, rfl, hc1, hc2, c0, c1, c2, c3⟩ := hq.cells
  have HNO := Lib.hid (hnone_yes gh bm w c3)
  by_cases hb : boxd u = true
  · obtain ⟨x, hx, hk⟩ := may_box hm hb
    rw [if_pos hb, itm_some hx] at hws
    subst hws
    have hok := (HH.out.1.wf.ok x (itAt_mem hx)).len
    have HPT := Lib.hid (fun w1 (hb : Below w.heap.size w w1) => parts_hp (HH.out.below hb) hu hk.symm hx)
    have HBOX := Lib.hid (fun w => hb ▸ boxed_any u hu.1 hu.2 w)
    obtain ⟨n, hn⟩ : ∃ n, x.ws.length = n := ⟨_, rfl⟩
    have HN := Lib.hid hn
    have h64 : n ≤ 64 := by omega
    rw [hn]
    clear hq c0 c1 c2 c3 hc1 hc2 h hb2 hm hu hx hk hb hn hok
    go_enter Try.func20, Try.ntmps20
    go_wp2_with fail
    refine HNO.out.mono ?_
    rintro e w1 ⟨rfl, h1⟩
    obtain rfl : w = w1 := h1.symm
    go_wp2_with fail
    refine HMY.out.mono ?_
    rintro e w1 ⟨rfl, hb1⟩
    have HB1 := Lib.hid (fbelow HB2.out hb1)
    clear hb1
    go_wp2_with (first | (go_at_call 35; refine (HBOX.out _).mono ?_; rintro e w2 ⟨rfl, h2⟩; obtain rfl := h2.symm) | fail)
    refine (HPT.out w1 HB1.out).mono ?_
    rintro e w2 ⟨r, hFr, A', c', he, hb2, ha2, h02, hc2, hr2⟩
    rw [HN.out] at he hr2
    subst he
    have hrl : r < w1.heap.size := Nat.lt_of_lt_of_le (HH.out.lt r hFr) HB1.out.size
    have hrd := hr2 w2 (fun j => hb2.cell (p := ⟨r, j, none⟩) hrl) (Nat.lt_of_lt_of_le hrl hb2.size)
    have HCL := Lib.hid (clone_u64 A' n c' w2.heap.size (u64s x.ws) w2 hrd (Nat.le_refl _) (u64s_one _) (by omega) h02)
    have HB2' := Lib.hid (fbelow HB1.out hb2)
    clear hb2 ha2 h02 hc2 hr2 hrd hrl
    go_wp2_with fail
    refine HCL.out.mono ?_
    rintro e w3 ⟨v3, rfl, ho3, hb3⟩
    obtain ⟨A3, c3, rfl, _, _⟩ := ownsRow_form ho3
    have HO3 := Lib.hid (ownsRow_base (base' := w.heap.size) ho3 (fun r hr => Nat.le_trans HB2'.out.size (ho3.lt r hr).1))
    have HB3 := Lib.hid (fbelow HB2'.out hb3)
    clear ho3 hb3
    go_wp2_with fail
    go_ret2
    exact ⟨A3, c3, rfl, HO3.out, HB3.out⟩
  · have hbf : boxd u = false := by simpa using hb
    rw [if_neg hb] at hws
    subst hws
    have HBOX := Lib.hid (fun w => hbf ▸ boxed_any u hu.1 hu.2 w)
    clear hq c0 c1 c2 c3 hc1 hc2 h hb2 hm hu hb hbf
    go_enter Try.func20, Try.ntmps20
    go_wp2_with fail
    refine HNO.out.mono ?_
    rintro e w1 ⟨rfl, h1⟩
    obtain rfl : w = w1 := h1.symm
    go_wp2_with fail
    refine HMY.out.mono ?_
    rintro e w1 ⟨rfl, hb1⟩
    have HB1 := Lib.hid (fbelow HB2.out hb1)
    clear hb1
    go_wp2_with (first | (go_at_call 35; refine (HBOX.out _).mono ?_; rintro e w2 ⟨rfl, h2⟩; obtain rfl := h2.symm) | fail)
    go_ret2
    exact ⟨none, 0, rfl, World.ownsRow_nil _ _ _ _, HB1.out⟩
set_option maxRecDepth 100000 in
set_option maxHeartbeats 800000 in
theorem words_any (gh g : Nat) (L : List ByteArray) (lim : Int) (H : List It) (w : World) (F : Nat → Prop) (h : Hp w F gh g L lim H) :
    Calls Try.prog 21 #[.pointer (some ⟨gh, 0, none⟩)] w fun e w' => ∃ A c, e = .returned (.slice A (hW H).length c) ∧ w'.ownsRow w.heap.size 31 1 (.slice A (hW H).length c) (hW H).length (u64s (hW H)) ∧ Below w.heap.size w w' := by
  obtain ⟨hB, FT, v, bm, N, D, hq, _⟩ := h
  have hlim1 := hB.lim1
  have hhl := hB.hl
  obtain ⟨Av, cv, rfl, hc1, hc2, c0, c1, c2, c3⟩ := hq.cells
  have HNO := Lib.hid (hnone_yes gh bm w c3)
  have hrd := Reads.of_own hq.row
  have h0 : Av = none → cv = 0 := fun e => by
    subst e
    rcases hq.row.2 with ⟨h1, _⟩ | ⟨_, _, _, h1, _⟩
    · injection h1
    · injection h1 with h1; cases h1
  have HCL := Lib.hid (clone_u64 Av (hW H).length cv w.heap.size (u64s (hW H)) w hrd (Nat.le_refl _) (u64s_one _) (by omega) h0)
  have hgl := hq.blk.lt
  obtain ⟨n, hn⟩ : ∃ n, (hW H).length = n := ⟨_, rfl⟩
  rw [hn] at c2 HCL ⊢
  clear hq c0 c1 c3 hc1 hc2 hB hlim1 hhl hrd h0 hn
  go_enter Try.func21, Try.ntmps21
  go_wp2_with fail
  refine HNO.out.mono ?_
  rintro e w1 ⟨rfl, h1⟩
  obtain rfl : w = w1 := h1.symm
  go_wp2_with fail
  refine HCL.out.mono ?_
  rintro e w3 ⟨v3, rfl, ho3, hb3⟩
  obtain ⟨A3, c3, rfl, _, _⟩ := ownsRow_form ho3
  have HO3 := Lib.hid (And.intro ho3 hb3)
  clear ho3 hb3
  go_wp2_with fail
  go_ret
  exact ⟨A3, c3, rfl, HO3.out.1, HO3.out.2⟩
end Go.Proofs.Ytnedjmjcbmoknaa.Hp
