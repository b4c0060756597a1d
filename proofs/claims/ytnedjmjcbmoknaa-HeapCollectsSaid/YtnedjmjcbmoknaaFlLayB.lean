/- Flatten's closure at boxed terms, by a contract. (Printed by mk_flay.py.) -/
import Derived.Test.YtnedjmjcbmoknaaFlSt
namespace Go.Proofs.Ytnedjmjcbmoknaa.Fl
open Go.RowKit K At Wd
set_option linter.unusedVariables false
set_option linter.unusedSimpArgs false

theorem infoW : (Try.prog.info? 31).map (fun i => (i.zero, i.size, i.bytes)) = some (some (.int .u64 0), 1, 8) := by kernel_rfl
theorem u64s_append (a b : List Int) : u64s (a ++ b) = u64s a ++ u64s b := by unfold u64s; rw [List.map_append]
theorem u64s_zeros (n : Nat) : List.replicate n (Value.int .u64 0) = u64s (List.replicate n 0) := by unfold u64s; rw [List.map_replicate]
theorem u64s_len (a : List Int) : (u64s a).length = a.length := by unfold u64s; rw [List.length_map]
theorem Fs.row {w : World} {M : Nat → Prop} {B g gO n : Nat} {L : List ByteArray} {O : List Int} {v : Value} (h : Fs w M B g gO L O) (hc : w.cell? ⟨gO, 0, none⟩ = some v) (hn : O.length = n) : w.ownsRow 0 31 1 v n (u64s O) ∧ w.frozen? ⟨gO, 0, none⟩ = false := by
  subst hn
  obtain ⟨A, c, h1, h2, h3, _, _⟩ := h.cell
  rw [h1] at hc
  injection hc with hc
  exact ⟨hc ▸ h3, h2⟩
theorem far_cell (w : World) (p a : Addr) (v : Value) (h : p.block ≠ a.block) : (w.setCell p v).cell? a = w.cell? a := World.cell?_setCell_other w p a v (fun e => h (by rw [e]))
theorem FMoved.then_ {w w1 w2 : World} {M M1 : Nat → Prop} {B g gO : Nat} {L : List ByteArray} {O : List Int} (hs : ∀ k, M1 k → M k ∨ w.heap.size ≤ k) (hk : Keep M w w1) (h : FMoved w1 M1 B g gO L O w2) : FMoved w M B g gO L O w2 := by
  obtain ⟨M2, hF, hs2, hk2⟩ := h
  refine ⟨M2, hF, fun k h => ?_, hk.trans hk2 (fun i hi hm => ?_)⟩
  · rcases hs2 k h with h | h
    · exact hs k h
    · exact .inr (Nat.le_trans hk.size h)
  · rcases hs i hm with h | h
    · exact h
    · omega
theorem FMoved.box {w1 w3 : World} {M : Nat → Prop} {B g gO b i : Nat} {L : List ByteArray} {O : List Int} {v x : Value} (h : FMoved w1 M B g gO L O (w3.setCell ⟨gO, 0, none⟩ v)) (hb : ¬ M b) (hne : gO ≠ b) (hc : w1.cell? ⟨b, i, none⟩ = some x) : w3.cell? ⟨b, i, none⟩ = some x := by
  obtain ⟨_, _, _, hk⟩ := h
  rw [← far_cell w3 ⟨gO, 0, none⟩ ⟨b, i, none⟩ v hne]
  exact (hk.cell (p := ⟨b, i, none⟩) (World.block_lt_of_cell? _ _ hc) hb).trans hc
theorem FMoved.at_ {w1 w3 : World} {M : Nat → Prop} {B g gO b i : Nat} {L : List ByteArray} {O : List Int} {x : Value} (h : FMoved w1 M B g gO L O w3) (hb : ¬ M b) (hc : w1.cell? ⟨b, i, none⟩ = some x) : w3.cell? ⟨b, i, none⟩ = some x := by
  obtain ⟨_, _, _, hk⟩ := h
  exact (hk.cell (p := ⟨b, i, none⟩) (World.block_lt_of_cell? _ _ hc) hb).trans hc
/-- Zeros are put behind. -/
theorem Fs.zeros {w w' : World} {M : Nat → Prop} {B g gO n : Nat} {L : List ByteArray} {O : List Int} {A : Option Addr} {c m : Nat} {v' : Value} (h : Fs w M B g gO L O) (hn : O.length = n) (hc : w.cell? ⟨gO, 0, none⟩ = some (.slice A n c)) (hR : w'.ownsRow 0 31 1 v' (n + m) (u64s O ++ List.replicate m (.int .u64 0))) (hg : w.grownBy w' (Value.slice A n c).ownBlock) (hat : v'.ownBlock = (Value.slice A n c).ownBlock ∨ v'.ownBlock = some w.heap.size) :
    FMoved w M B g gO L (O ++ List.replicate m 0) (w'.setCell ⟨gO, 0, none⟩ v') ∧ w'.frozen? ⟨gO, 0, none⟩ = false ∧ (∃ x, w'.cell? ⟨gO, 0, none⟩ = some x) ∧ (w'.setCell ⟨gO, 0, none⟩ v').cell? ⟨gO, 0, none⟩ = some v' := by
  subst hn
  obtain ⟨A', c', rfl, _, _⟩ := ownsRow_form hR
  rw [u64s_zeros, ← u64s_append] at hR
  have hh := h.held hc (Below.refl _ _) hg
  exact ⟨h.push hc (Below.refl _ _) hg hR hat, hh.2, ⟨_, hh.1⟩, World.cell?_setCell_same _ _ _ hh.1⟩
/-- A word is put behind. -/
theorem Fs.word {w w' : World} {M : Nat → Prop} {B g gO n : Nat} {L : List ByteArray} {O : List Int} {A : Option Addr} {c : Nat} {v' : Value} {x : Int} {o : Obj} (h : Fs w M B g gO L O) (hn : O.length = n) (hc : w.cell? ⟨gO, 0, none⟩ = some (.slice A n c)) (hR : w'.ownsRow 0 31 1 v' (n + 1) (u64s O ++ [.int .u64 x])) (hg : (w.alloc o).grownBy w' (Value.slice A n c).ownBlock) (hat : v'.ownBlock = (Value.slice A n c).ownBlock ∨ v'.ownBlock = some (w.alloc o).heap.size) :
    FMoved w M B g gO L (O ++ [x]) (w'.setCell ⟨gO, 0, none⟩ v') ∧ w'.frozen? ⟨gO, 0, none⟩ = false ∧ (∃ x, w'.cell? ⟨gO, 0, none⟩ = some x) ∧ (w'.setCell ⟨gO, 0, none⟩ v').cell? ⟨gO, 0, none⟩ = some v' := by
  subst hn
  obtain ⟨A', c', rfl, _, _⟩ := ownsRow_form hR
  rw [show [Value.int .u64 x] = u64s [x] from rfl, ← u64s_append] at hR
  have hh := h.held hc (ballocs (Below.refl _ _) _) hg
  exact ⟨h.push hc (ballocs (Below.refl _ _) _) hg hR hat, hh.2, ⟨_, hh.1⟩, World.cell?_setCell_same _ _ _ hh.1⟩
set_option maxRecDepth 100000 in
set_option maxHeartbeats 16000000 in
theorem lay_7 (l : List Tm) (A : Option Addr) (c : Nat) (ih : ∀ u ∈ l, LayC u) (w : World) (M G : Nat → Prop) (B g gO gA gL : Nat) (L : List ByteArray) (O : List Int) (hF : Fs w M B g gO L O) (hts : TsAt w G A l) (hG : ∀ b, G b → b < w.heap.size ∧ ¬ M b) (hv : FVars w M B g gO gA gL) (hs : soundB (.mk 7 0 ⟨#[]⟩ l) = true) (hsl : ∀ u ∈ l, sndL (subs u) = true) (hO : (O.length : Int) + wds (.mk 7 0 ⟨#[]⟩ l) ≤ 65537) :
    Calls Try.prog 52 #[.agg #[.int .i64 7, .int .i64 0, .string ⟨#[]⟩, .slice A l.length c], .pointer (some ⟨gO, 0, none⟩), .pointer (some ⟨gA, 0, none⟩), .pointer (some ⟨gL, 0, none⟩)] w (LayPost w M B g gO (.mk 7 0 ⟨#[]⟩ l) L O) := by
  have hlen : l.length ≤ 64 := by have h := (soundB_7 _ _ _).1 hs; omega
  have hO2 : O.length ≤ 65537 := by have := (wds_range (.mk 7 0 ⟨#[]⟩ l)).1; omega
  have HO := Lib.hid hO
  have HIH := Lib.hid ih
  have HSL := Lib.hid hsl
  have HF := Lib.hid hF
  have HG := Lib.hid hG
  have hB := Blk.new w 28 #[.int .i64 7, .int .i64 0, .string ⟨#[]⟩, .slice A l.length c]
  have hb0 := ballocs (Below.refl w.heap.size w) (.cells #[.int .i64 7, .int .i64 0, .string ⟨#[]⟩, .slice A l.length c] 28)
  have hF0 := hF.below hb0
  have hv0 := hv.keep (M' := M) (Keep.new (F := M) hb0) (fun k h => .inl h)
  have hts0 := hts.under hb0 (fun b hb => (hG b hb).1)
  have HB0 := Lib.hid hb0
  have hM : ¬ M w.heap.size := fun h => by
    obtain ⟨F, v, _, _, _, _, _, _, _, _, h5⟩ := hF
    have := h5 _ h; omega
  have HM := Lib.hid hM
  have hne : gO ≠ w.heap.size := fun e => by
    obtain ⟨F, v, _, _, _, _, _, h2, _, _, h5⟩ := hF
    have := h5 _ h2; omega
  have HPH := Lib.hid (fun (w : World) => pack_any 10 (l.length : Int) (by decide) (WalkArith.wf_i64 (by omega)) w)
  have HP := Lib.hid (fun (w : World) => pack_any 7 (O.length : Int) (by decide) (WalkArith.wf_i64 (by omega)) w)
  obtain ⟨i0, hi, hz0, hz1, hz2⟩ := info_parts infoW
  clear hF hs hb0 hv hM hO ih hsl hG hts
  go_enter Try.func52, Try.ntmps52
  go_wp2_with fail
  obtain ⟨w0, hw0⟩ : ∃ x, w.alloc (.cells #[.int .i64 7, .int .i64 0, .string ⟨#[]⟩, .slice A l.length c] 28) = x := ⟨_, rfl⟩
  rw [hw0] at hB HB0 hF0 hv0 hts0 ⊢
  obtain ⟨A0, c0, hc, hfz, hR, hca, hcm⟩ := hF0.cell
  obtain ⟨p0, p1, p2, p3, _, _, _, _⟩ := hB.four
  have HF0 := Lib.hid hF0
  have HV0 := Lib.hid hv0
  have HTS := Lib.hid hts0
  have HR := Lib.hid hR
  have hbl : w.heap.size < w0.heap.size := World.block_lt_of_cell? w0 _ p0
  clear hw0 hF0 hcm hca hB hv0 hts0 hR
  go_quiet (fail)
  go_wp2_with (first
    | (go_at_call 36; refine (HPH.out _).mono ?_; rintro e w1 ⟨rfl, hb1⟩
       have hb1 : Below w0.heap.size w0 w1 := bundrewN hb1
       have hF1 := HF0.out.below hb1
       have hc1 : w1.cell? ⟨gO, 0, none⟩ = some (.slice A0 O.length c0) := (hb1.cell (p := ⟨gO, 0, none⟩) (World.block_lt_of_cell? _ _ hc)).trans hc
       have hR1 := ownsRow_below HR.out hb1 (fun r hr => (HR.out.lt r hr).2)
       have q3 : w1.cell? ⟨w.heap.size, 3, none⟩ = some (.slice A l.length c) := (hb1.cell (p := ⟨w.heap.size, 3, none⟩) hbl).trans p3
       have HF1 := Lib.hid hF1; have HR1 := Lib.hid hR1; have HB1 := Lib.hid hb1; clear hF1 hR1 hb1)
    | (at_builtin; refine wpList_append_own_at _ rfl _ _ 39 rfl 0 31 i0 _ 1 8 Try.underlying39 hi hz0 hz1 hz2 rfl (by decide) (.slice A0 O.length c0) O.length (u64s O) rfl (HR1.out.alloc _) ⟨w1.heap.size, 0, none⟩ 1 1 [.int .u64 (packW 10 (l.length : Int))] rfl rfl (cell_one_new _ _ _) (by simp [Value.oneCell']) (by unfold maxLen; omega) (by omega) (Nat.zero_le _) ?_; intro v3 w3 hR3 hg3 _ hat3
       obtain ⟨A3, c3, rfl, hA3, hC3⟩ := ownsRow_form hR3
       obtain ⟨hm3, h3f, ⟨x3, h3c⟩, h4c⟩ := HF1.out.word rfl hc1 hR3 hg3 hat3
       have b3 : w3.cell? ⟨w.heap.size, 3, none⟩ = some (.slice A l.length c) := hm3.box HM.out hne q3
       have HM3 := Lib.hid hm3; clear hm3 hR3 hg3 hat3)
    | (at_builtin; obtain ⟨M4, hF4, hs4, hk4⟩ := HM3.out; refine wpList_append_zeros _ rfl _ _ 39 3 rfl 0 31 i0 _ (.int .u64 0) 8 Try.underlying39 Try.underlying3 hi hz0 hz1 hz2 rfl rfl (.slice A3 (O.length + 1) c3) (O.length + 1) _ rfl (hF4.row h4c (by simp)).1 l.length rfl (by unfold maxLen; omega) (by omega) (Nat.zero_le _) ?_; intro v5 w5 hR5 hg5 hat5
       obtain ⟨hm5, h5f, ⟨x5, h5c⟩, h6c⟩ := hF4.zeros (by simp) h4c hR5 hg5 hat5
       have b5 : w5.cell? ⟨w.heap.size, 3, none⟩ = some (.slice A l.length c) := hm5.box (fun h => by rcases hs4 _ h with h | h; exact HM.out h; have := HB1.out.size; omega) hne ((far_cell w3 ⟨gO, 0, none⟩ ⟨w.heap.size, 3, none⟩ _ hne).trans b3)
       obtain ⟨A5, c5, rfl, hA5, hC5⟩ := ownsRow_form hR5
       have HM5 := Lib.hid (((hm5.then_ hs4 hk4) : FMoved w1 M B g gO L _ _).from_ HB1.out); clear hm5 hF4 hs4 hk4 hR5 hg5 hat5))
  obtain ⟨w6, hw6⟩ : ∃ x, w5.setCell ⟨gO, 0, none⟩ (.slice A5 (O.length + 1 + l.length) c5) = x := ⟨_, rfl⟩
  rw [hw6] at HM5 ⊢
  clear hw6 h6c h5c h5f b5 hA5 hC5 HM3 b3 h4c h3c h3f hA3 hC3 HR1 HF1 HB1 q3 hc1 hb1
  have HS0 := Lib.hid (show (numsL (l.take 0) L).1 = true ∧ FMoved w0 M B g gO (numsL (l.take 0) L).2 (mid (ix (numsL (l.take 0) L).2) O 7 0 l 0) w6 from by
    rw [List.take_zero, numsL_nil, mid_zero]
    exact ⟨rfl, HM5.out⟩)
  clear HM5
  go_loopw [89] (fun x wr => ∃ i : Nat, i ≤ l.length ∧ x = .int .i64 (i : Int) ∧ (numsL (l.take i) L).1 = true ∧ FMoved w0 M B g gO (numsL (l.take i) L).2 (mid (ix (numsL (l.take i) L).2) O 7 0 l i) wr) (fun x _ => l.length - (intOf x).toNat)
  case atStart => exact ⟨0, Nat.zero_le _, rfl, HS0.out⟩
  case round =>
    obtain ⟨i, hi, rfl, hok, hm⟩ := hrel
    have HMR := Lib.hid hm
    have HOK := Lib.hid hok
    clear hm hok
    by_cases hlt : i < l.length
    · obtain ⟨u, hu⟩ : ∃ u, l[i]? = some u := ⟨_, List.getElem?_eq_getElem hlt⟩
      obtain ⟨M9, hF9, hs9, hk9⟩ := HMR.out
      have hG9 : ∀ b, G b → b < wr.heap.size ∧ ¬ M9 b := fun b hb => by
        have h1 := HG.out b hb; have h2 := HB0.out.size; have h3 := hk9.size
        refine ⟨by omega, fun hm => ?_⟩
        rcases hs9 b hm with h | h; exact h1.2 h; omega
      have hts9 := HTS.out.keepF hk9 (fun b hb => by have := HG.out b hb; have := HB0.out.size; omega) (fun b hb => (HG.out b hb).2)
      obtain ⟨b, o, A1, c1, rfl, hb1, d0, d1, d2, d3, ok1, hts1⟩ := hts9.at_ hu
      have hv9 := HV0.out.keep hk9 hs9
      have hfl : wr.cell? ⟨gL, 0, none⟩ = some (.func (.func 52) #[] #[.pointer (some ⟨gO, 0, none⟩), .pointer (some ⟨gA, 0, none⟩), .pointer (some ⟨gL, 0, none⟩)]) := hv9.2.1
      have HBD := Lib.hid (mid_bound (ix (numsL (l.take i) L).2) O 7 0 ⟨#[]⟩ (by unfold boxK; omega) hu)
      have hbx := ballocs (Below.refl wr.heap.size wr) (.cells #[.int .i64 u.k, .int .i64 u.n, .string u.s, .slice A1 u.l.length c1] 28)
      have HF9 := Lib.hid hF9; have HS9 := Lib.hid hs9; have HK9 := Lib.hid hk9; have HG9 := Lib.hid hG9; have HV9 := Lib.hid hv9; have HT9 := Lib.hid (TAt.of ok1 hts1); have HBX := Lib.hid hbx; have HU := Lib.hid hu
      have hgl : gL < wr.heap.size := World.block_lt_of_cell? _ _ hfl
      have hi0 : (0 : Int) ≤ (i : Int) := by omega
      have hil : (i : Int) < (l.length : Int) := by omega
      clear hF9 hs9 hk9 hG9 hts9 hv9 hbx hts1 ok1 hu
      go_wp2_with fail
      refine (HIH.out u (List.mem_of_getElem? HU.out) _ _ M9 G B g gO gA gL (numsL (l.take i) L).2 (mid (ix (numsL (l.take i) L).2) O 7 0 l i) (HF9.out.below HBX.out) (HT9.out.under HBX.out (fun b hb => (HG9.out b hb).1)) (fun b hb => ⟨by have := (HG9.out b hb).1; have := HBX.out.size; omega, (HG9.out b hb).2⟩) (HV9.out.keep (Keep.new (F := M9) HBX.out) (fun k h => .inl h)) (HSL.out u (List.mem_of_getElem? HU.out)) (by have h1 := HBD.out; have h2 := HO.out; omega)).mono ?_
      rintro e w7 (⟨h1, rfl, hm⟩ | ⟨h1, y, O2, rfl, hy, hm⟩)
      · have HM7 := Lib.hid hm
        have H1 := Lib.hid h1
        obtain ⟨M10, hF10, hs10, hk10⟩ := hm
        obtain ⟨N, hN⟩ : ∃ N, (mid (ix (numsL (l.take i) L).2) O 7 0 l i ++ lay (ix (nums u (numsL (l.take i) L).2).2) u (mid (ix (numsL (l.take i) L).2) O 7 0 l i).length).length = N := ⟨_, rfl⟩
        have hiN : O.length + 1 + i < N := by
          rw [← hN, List.length_append, mid_len _ _ _ _ _ (by omega)]
          have : (hd 7 0 l.length).length = 1 := rfl
          omega
        obtain ⟨r, cr, hcr, hcr1, hcr2, ⟨x9, hx9⟩, hfz9, hst⟩ := hF10.store (by rw [hN]; exact hiN)
        rw [hN] at hcr hcr1
        have HST := Lib.hid hst
        have HN := Lib.hid hN
        have HS10 := Lib.hid hs10; have HK10 := Lib.hid hk10
        clear hF10 hst hN h1 hs10 hk10
        go_wp2_with fail
        refine ⟨⟨i + 1, by omega, rfl, ?_, ?_⟩, by simp [intOf]; omega⟩
        · rw [numsL_snoc L HU.out HOK.out]; exact H1.out
        · rw [numsL_snoc L HU.out HOK.out]
          have hms := mid_step (f := ix (numsL (l.take i) L).2) (f' := ix (nums u (numsL (l.take i) L).2).2) O 7 0 HU.out (fun s hs => (ix_ext (numsL_in HOK.out s hs) (nums_ext u _)).symm)
          rw [← hms]
          exact (((HST.out _).then_ HS10.out HK10.out).from_ HBX.out).then_ HS9.out HK9.out
      · have HM7 := Lib.hid hm
        have H1 := Lib.hid h1
        have HY := Lib.hid hy
        clear h1 hm
        go_wp2_with fail
        go_ret2
        refine .inr ?_
        rw [nums_mk, if_neg (by decide), numsL_stop HU.out HOK.out H1.out]
        exact ⟨rfl, y, O2, rfl, HY.out, ((HM7.out.from_ HBX.out).then_ HS9.out HK9.out).from_ HB0.out⟩
    · obtain rfl : i = l.length := by omega
      have b0 : wr.cell? ⟨w.heap.size, 0, none⟩ = some (.int .i64 7) := HMR.out.at_ HM.out p0
      go_wp2_with (first
        | (go_at_call 36; refine (HP.out _).mono ?_; rintro e w9 ⟨rfl, hb9⟩; have HB9 := Lib.hid hb9; clear hb9))
      go_ret2
      have h1 := HMR.out
      have h2 := HOK.out
      rw [List.take_length] at h1 h2
      rw [mid_end _ O 7 0 ⟨#[]⟩ l (by unfold boxK; omega)] at h1
      refine .inl ?_
      rw [nums_mk, if_neg (by decide)]
      refine ⟨h2, ?_, (h1.trans HB9.out (fun M' h _ _ => FMoved.stay h)).from_ HB0.out⟩
      refine ret2_wi ?_ rfl
      rw [ownW_mk, if_neg (by decide), if_pos (by unfold boxK; omega)]
set_option maxRecDepth 100000 in
set_option maxHeartbeats 16000000 in
theorem lay_5 (n : Int) (l : List Tm) (A : Option Addr) (c : Nat) (ih : ∀ u ∈ l, LayC u) (w : World) (M G : Nat → Prop) (B g gO gA gL : Nat) (L : List ByteArray) (O : List Int) (hF : Fs w M B g gO L O) (hts : TsAt w G A l) (hG : ∀ b, G b → b < w.heap.size ∧ ¬ M b) (hv : FVars w M B g gO gA gL) (hs : soundB (.mk 5 n ⟨#[]⟩ l) = true) (hsl : ∀ u ∈ l, sndL (subs u) = true) (hO : (O.length : Int) + wds (.mk 5 n ⟨#[]⟩ l) ≤ 65537) :
    Calls Try.prog 52 #[.agg #[.int .i64 5, .int .i64 n, .string ⟨#[]⟩, .slice A l.length c], .pointer (some ⟨gO, 0, none⟩), .pointer (some ⟨gA, 0, none⟩), .pointer (some ⟨gL, 0, none⟩)] w (LayPost w M B g gO (.mk 5 n ⟨#[]⟩ l) L O) := by
  have hlen : l.length ≤ 64 := by have h := (soundB_5 _ _ _).1 hs; omega
  have hn : 0 ≤ n ∧ n ≤ 1073741824 := by have h := (soundB_5 _ _ _).1 hs; omega
  have hO2 : O.length ≤ 65537 := by have := (wds_range (.mk 5 n ⟨#[]⟩ l)).1; omega
  have HO := Lib.hid hO
  have HIH := Lib.hid ih
  have HSL := Lib.hid hsl
  have HF := Lib.hid hF
  have HG := Lib.hid hG
  have hB := Blk.new w 28 #[.int .i64 5, .int .i64 n, .string ⟨#[]⟩, .slice A l.length c]
  have hb0 := ballocs (Below.refl w.heap.size w) (.cells #[.int .i64 5, .int .i64 n, .string ⟨#[]⟩, .slice A l.length c] 28)
  have hF0 := hF.below hb0
  have hv0 := hv.keep (M' := M) (Keep.new (F := M) hb0) (fun k h => .inl h)
  have hts0 := hts.under hb0 (fun b hb => (hG b hb).1)
  have HB0 := Lib.hid hb0
  have hM : ¬ M w.heap.size := fun h => by
    obtain ⟨F, v, _, _, _, _, _, _, _, _, h5⟩ := hF
    have := h5 _ h; omega
  have HM := Lib.hid hM
  have hne : gO ≠ w.heap.size := fun e => by
    obtain ⟨F, v, _, _, _, _, _, h2, _, _, h5⟩ := hF
    have := h5 _ h2; omega
  have HPH := Lib.hid (fun (w : World) => pack_any 11 (n * 128 + (l.length : Int)) (by decide) (WalkArith.wf_i64 (by omega)) w)
  have HP := Lib.hid (fun (w : World) => pack_any 5 (O.length : Int) (by decide) (WalkArith.wf_i64 (by omega)) w)
  obtain ⟨i0, hi, hz0, hz1, hz2⟩ := info_parts infoW
  clear hF hs hb0 hv hM hO ih hsl hG hts
  go_enter Try.func52, Try.ntmps52
  go_wp2_with fail
  obtain ⟨w0, hw0⟩ : ∃ x, w.alloc (.cells #[.int .i64 5, .int .i64 n, .string ⟨#[]⟩, .slice A l.length c] 28) = x := ⟨_, rfl⟩
  rw [hw0] at hB HB0 hF0 hv0 hts0 ⊢
  obtain ⟨A0, c0, hc, hfz, hR, hca, hcm⟩ := hF0.cell
  obtain ⟨p0, p1, p2, p3, _, _, _, _⟩ := hB.four
  have HF0 := Lib.hid hF0
  have HV0 := Lib.hid hv0
  have HTS := Lib.hid hts0
  have HR := Lib.hid hR
  have hbl : w.heap.size < w0.heap.size := World.block_lt_of_cell? w0 _ p0
  clear hw0 hF0 hcm hca hB hv0 hts0 hR
  go_quiet (fail)
  go_wp2_with (first
    | (go_at_call 36; refine (HPH.out _).mono ?_; rintro e w1 ⟨rfl, hb1⟩
       have hb1 : Below w0.heap.size w0 w1 := bundrewN hb1
       have hF1 := HF0.out.below hb1
       have hc1 : w1.cell? ⟨gO, 0, none⟩ = some (.slice A0 O.length c0) := (hb1.cell (p := ⟨gO, 0, none⟩) (World.block_lt_of_cell? _ _ hc)).trans hc
       have hR1 := ownsRow_below HR.out hb1 (fun r hr => (HR.out.lt r hr).2)
       have q3 : w1.cell? ⟨w.heap.size, 3, none⟩ = some (.slice A l.length c) := (hb1.cell (p := ⟨w.heap.size, 3, none⟩) hbl).trans p3
       have HF1 := Lib.hid hF1; have HR1 := Lib.hid hR1; have HB1 := Lib.hid hb1; clear hF1 hR1 hb1)
    | (at_builtin; refine wpList_append_own_at _ rfl _ _ 39 rfl 0 31 i0 _ 1 8 Try.underlying39 hi hz0 hz1 hz2 rfl (by decide) (.slice A0 O.length c0) O.length (u64s O) rfl (HR1.out.alloc _) ⟨w1.heap.size, 0, none⟩ 1 1 [.int .u64 (packW 11 (n * 128 + (l.length : Int)))] rfl rfl (cell_one_new _ _ _) (by simp [Value.oneCell']) (by unfold maxLen; omega) (by omega) (Nat.zero_le _) ?_; intro v3 w3 hR3 hg3 _ hat3
       obtain ⟨A3, c3, rfl, hA3, hC3⟩ := ownsRow_form hR3
       obtain ⟨hm3, h3f, ⟨x3, h3c⟩, h4c⟩ := HF1.out.word rfl hc1 hR3 hg3 hat3
       have b3 : w3.cell? ⟨w.heap.size, 3, none⟩ = some (.slice A l.length c) := hm3.box HM.out hne q3
       have HM3 := Lib.hid hm3; clear hm3 hR3 hg3 hat3)
    | (at_builtin; obtain ⟨M4, hF4, hs4, hk4⟩ := HM3.out; refine wpList_append_zeros _ rfl _ _ 39 3 rfl 0 31 i0 _ (.int .u64 0) 8 Try.underlying39 Try.underlying3 hi hz0 hz1 hz2 rfl rfl (.slice A3 (O.length + 1) c3) (O.length + 1) _ rfl (hF4.row h4c (by simp)).1 l.length rfl (by unfold maxLen; omega) (by omega) (Nat.zero_le _) ?_; intro v5 w5 hR5 hg5 hat5
       obtain ⟨hm5, h5f, ⟨x5, h5c⟩, h6c⟩ := hF4.zeros (by simp) h4c hR5 hg5 hat5
       have b5 : w5.cell? ⟨w.heap.size, 3, none⟩ = some (.slice A l.length c) := hm5.box (fun h => by rcases hs4 _ h with h | h; exact HM.out h; have := HB1.out.size; omega) hne ((far_cell w3 ⟨gO, 0, none⟩ ⟨w.heap.size, 3, none⟩ _ hne).trans b3)
       obtain ⟨A5, c5, rfl, hA5, hC5⟩ := ownsRow_form hR5
       have HM5 := Lib.hid (((hm5.then_ hs4 hk4) : FMoved w1 M B g gO L _ _).from_ HB1.out); clear hm5 hF4 hs4 hk4 hR5 hg5 hat5))
  obtain ⟨w6, hw6⟩ : ∃ x, w5.setCell ⟨gO, 0, none⟩ (.slice A5 (O.length + 1 + l.length) c5) = x := ⟨_, rfl⟩
  rw [hw6] at HM5 ⊢
  clear hw6 h6c h5c h5f b5 hA5 hC5 HM3 b3 h4c h3c h3f hA3 hC3 HR1 HF1 HB1 q3 hc1 hb1
  have HS0 := Lib.hid (show (numsL (l.take 0) L).1 = true ∧ FMoved w0 M B g gO (numsL (l.take 0) L).2 (mid (ix (numsL (l.take 0) L).2) O 5 n l 0) w6 from by
    rw [List.take_zero, numsL_nil, mid_zero]
    exact ⟨rfl, HM5.out⟩)
  clear HM5
  go_loopw [89] (fun x wr => ∃ i : Nat, i ≤ l.length ∧ x = .int .i64 (i : Int) ∧ (numsL (l.take i) L).1 = true ∧ FMoved w0 M B g gO (numsL (l.take i) L).2 (mid (ix (numsL (l.take i) L).2) O 5 n l i) wr) (fun x _ => l.length - (intOf x).toNat)
  case atStart => exact ⟨0, Nat.zero_le _, rfl, HS0.out⟩
  case round =>
    obtain ⟨i, hi, rfl, hok, hm⟩ := hrel
    have HMR := Lib.hid hm
    have HOK := Lib.hid hok
    clear hm hok
    by_cases hlt : i < l.length
    · obtain ⟨u, hu⟩ : ∃ u, l[i]? = some u := ⟨_, List.getElem?_eq_getElem hlt⟩
      obtain ⟨M9, hF9, hs9, hk9⟩ := HMR.out
      have hG9 : ∀ b, G b → b < wr.heap.size ∧ ¬ M9 b := fun b hb => by
        have h1 := HG.out b hb; have h2 := HB0.out.size; have h3 := hk9.size
        refine ⟨by omega, fun hm => ?_⟩
        rcases hs9 b hm with h | h; exact h1.2 h; omega
      have hts9 := HTS.out.keepF hk9 (fun b hb => by have := HG.out b hb; have := HB0.out.size; omega) (fun b hb => (HG.out b hb).2)
      obtain ⟨b, o, A1, c1, rfl, hb1, d0, d1, d2, d3, ok1, hts1⟩ := hts9.at_ hu
      have hv9 := HV0.out.keep hk9 hs9
      have hfl : wr.cell? ⟨gL, 0, none⟩ = some (.func (.func 52) #[] #[.pointer (some ⟨gO, 0, none⟩), .pointer (some ⟨gA, 0, none⟩), .pointer (some ⟨gL, 0, none⟩)]) := hv9.2.1
      have HBD := Lib.hid (mid_bound (ix (numsL (l.take i) L).2) O 5 n ⟨#[]⟩ (by unfold boxK; omega) hu)
      have hbx := ballocs (Below.refl wr.heap.size wr) (.cells #[.int .i64 u.k, .int .i64 u.n, .string u.s, .slice A1 u.l.length c1] 28)
      have HF9 := Lib.hid hF9; have HS9 := Lib.hid hs9; have HK9 := Lib.hid hk9; have HG9 := Lib.hid hG9; have HV9 := Lib.hid hv9; have HT9 := Lib.hid (TAt.of ok1 hts1); have HBX := Lib.hid hbx; have HU := Lib.hid hu
      have hgl : gL < wr.heap.size := World.block_lt_of_cell? _ _ hfl
      have hi0 : (0 : Int) ≤ (i : Int) := by omega
      have hil : (i : Int) < (l.length : Int) := by omega
      clear hF9 hs9 hk9 hG9 hts9 hv9 hbx hts1 ok1 hu
      go_wp2_with fail
      refine (HIH.out u (List.mem_of_getElem? HU.out) _ _ M9 G B g gO gA gL (numsL (l.take i) L).2 (mid (ix (numsL (l.take i) L).2) O 5 n l i) (HF9.out.below HBX.out) (HT9.out.under HBX.out (fun b hb => (HG9.out b hb).1)) (fun b hb => ⟨by have := (HG9.out b hb).1; have := HBX.out.size; omega, (HG9.out b hb).2⟩) (HV9.out.keep (Keep.new (F := M9) HBX.out) (fun k h => .inl h)) (HSL.out u (List.mem_of_getElem? HU.out)) (by have h1 := HBD.out; have h2 := HO.out; omega)).mono ?_
      rintro e w7 (⟨h1, rfl, hm⟩ | ⟨h1, y, O2, rfl, hy, hm⟩)
      · have HM7 := Lib.hid hm
        have H1 := Lib.hid h1
        obtain ⟨M10, hF10, hs10, hk10⟩ := hm
        obtain ⟨N, hN⟩ : ∃ N, (mid (ix (numsL (l.take i) L).2) O 5 n l i ++ lay (ix (nums u (numsL (l.take i) L).2).2) u (mid (ix (numsL (l.take i) L).2) O 5 n l i).length).length = N := ⟨_, rfl⟩
        have hiN : O.length + 1 + i < N := by
          rw [← hN, List.length_append, mid_len _ _ _ _ _ (by omega)]
          have : (hd 5 n l.length).length = 1 := rfl
          omega
        obtain ⟨r, cr, hcr, hcr1, hcr2, ⟨x9, hx9⟩, hfz9, hst⟩ := hF10.store (by rw [hN]; exact hiN)
        rw [hN] at hcr hcr1
        have HST := Lib.hid hst
        have HN := Lib.hid hN
        have HS10 := Lib.hid hs10; have HK10 := Lib.hid hk10
        clear hF10 hst hN h1 hs10 hk10
        go_wp2_with fail
        refine ⟨⟨i + 1, by omega, rfl, ?_, ?_⟩, by simp [intOf]; omega⟩
        · rw [numsL_snoc L HU.out HOK.out]; exact H1.out
        · rw [numsL_snoc L HU.out HOK.out]
          have hms := mid_step (f := ix (numsL (l.take i) L).2) (f' := ix (nums u (numsL (l.take i) L).2).2) O 5 n HU.out (fun s hs => (ix_ext (numsL_in HOK.out s hs) (nums_ext u _)).symm)
          rw [← hms]
          exact (((HST.out _).then_ HS10.out HK10.out).from_ HBX.out).then_ HS9.out HK9.out
      · have HM7 := Lib.hid hm
        have H1 := Lib.hid h1
        have HY := Lib.hid hy
        clear h1 hm
        go_wp2_with fail
        go_ret2
        refine .inr ?_
        rw [nums_mk, if_neg (by decide), numsL_stop HU.out HOK.out H1.out]
        exact ⟨rfl, y, O2, rfl, HY.out, ((HM7.out.from_ HBX.out).then_ HS9.out HK9.out).from_ HB0.out⟩
    · obtain rfl : i = l.length := by omega
      have b0 : wr.cell? ⟨w.heap.size, 0, none⟩ = some (.int .i64 5) := HMR.out.at_ HM.out p0
      go_wp2_with (first
        | (go_at_call 36; refine (HP.out _).mono ?_; rintro e w9 ⟨rfl, hb9⟩; have HB9 := Lib.hid hb9; clear hb9))
      go_ret2
      have h1 := HMR.out
      have h2 := HOK.out
      rw [List.take_length] at h1 h2
      rw [mid_end _ O 5 n ⟨#[]⟩ l (by unfold boxK; omega)] at h1
      refine .inl ?_
      rw [nums_mk, if_neg (by decide)]
      refine ⟨h2, ?_, (h1.trans HB9.out (fun M' h _ _ => FMoved.stay h)).from_ HB0.out⟩
      refine ret2_wi ?_ rfl
      rw [ownW_mk, if_neg (by decide), if_pos (by unfold boxK; omega)]
set_option maxRecDepth 100000 in
set_option maxHeartbeats 16000000 in
theorem lay_9 (l : List Tm) (A : Option Addr) (c : Nat) (ih : ∀ u ∈ l, LayC u) (w : World) (M G : Nat → Prop) (B g gO gA gL : Nat) (L : List ByteArray) (O : List Int) (hF : Fs w M B g gO L O) (hts : TsAt w G A l) (hG : ∀ b, G b → b < w.heap.size ∧ ¬ M b) (hv : FVars w M B g gO gA gL) (hs : soundB (.mk 9 0 ⟨#[]⟩ l) = true) (hsl : ∀ u ∈ l, sndL (subs u) = true) (hO : (O.length : Int) + wds (.mk 9 0 ⟨#[]⟩ l) ≤ 65537) :
    Calls Try.prog 52 #[.agg #[.int .i64 9, .int .i64 0, .string ⟨#[]⟩, .slice A l.length c], .pointer (some ⟨gO, 0, none⟩), .pointer (some ⟨gA, 0, none⟩), .pointer (some ⟨gL, 0, none⟩)] w (LayPost w M B g gO (.mk 9 0 ⟨#[]⟩ l) L O) := by
  have hlen : l.length ≤ 64 := by have h := (soundB_9 _ _ _).1 hs; omega
  have hO2 : O.length ≤ 65537 := by have := (wds_range (.mk 9 0 ⟨#[]⟩ l)).1; omega
  have HO := Lib.hid hO
  have HIH := Lib.hid ih
  have HSL := Lib.hid hsl
  have HF := Lib.hid hF
  have HG := Lib.hid hG
  have hB := Blk.new w 28 #[.int .i64 9, .int .i64 0, .string ⟨#[]⟩, .slice A l.length c]
  have hb0 := ballocs (Below.refl w.heap.size w) (.cells #[.int .i64 9, .int .i64 0, .string ⟨#[]⟩, .slice A l.length c] 28)
  have hF0 := hF.below hb0
  have hv0 := hv.keep (M' := M) (Keep.new (F := M) hb0) (fun k h => .inl h)
  have hts0 := hts.under hb0 (fun b hb => (hG b hb).1)
  have HB0 := Lib.hid hb0
  have hM : ¬ M w.heap.size := fun h => by
    obtain ⟨F, v, _, _, _, _, _, _, _, _, h5⟩ := hF
    have := h5 _ h; omega
  have HM := Lib.hid hM
  have hne : gO ≠ w.heap.size := fun e => by
    obtain ⟨F, v, _, _, _, _, _, h2, _, _, h5⟩ := hF
    have := h5 _ h2; omega
  have HP := Lib.hid (fun (w : World) => pack_any 9 (O.length : Int) (by decide) (WalkArith.wf_i64 (by omega)) w)
  obtain ⟨i0, hi, hz0, hz1, hz2⟩ := info_parts infoW
  clear hF hs hb0 hv hM hO ih hsl hG hts
  go_enter Try.func52, Try.ntmps52
  go_wp2_with fail
  obtain ⟨w0, hw0⟩ : ∃ x, w.alloc (.cells #[.int .i64 9, .int .i64 0, .string ⟨#[]⟩, .slice A l.length c] 28) = x := ⟨_, rfl⟩
  rw [hw0] at hB HB0 hF0 hv0 hts0 ⊢
  obtain ⟨A0, c0, hc, hfz, hR, hca, hcm⟩ := hF0.cell
  obtain ⟨p0, p1, p2, p3, _, _, _, _⟩ := hB.four
  have HF0 := Lib.hid hF0
  have HV0 := Lib.hid hv0
  have HTS := Lib.hid hts0
  have HR := Lib.hid hR
  have hbl : w.heap.size < w0.heap.size := World.block_lt_of_cell? w0 _ p0
  clear hw0 hF0 hcm hca hB hv0 hts0 hR
  go_quiet (fail)
  have hbq : Below w0.heap.size w0 (w0.drewN nq) := bundrewN (Below.refl _ _)
  have hF4 := HF0.out.below hbq
  have h4c : (w0.drewN nq).cell? ⟨gO, 0, none⟩ = some (.slice A0 O.length c0) := hc
  have HBQ := Lib.hid hbq; have HF4 := Lib.hid hF4; clear hbq hF4
  go_wp2_with (first
    | (at_builtin; refine wpList_append_zeros _ rfl _ _ 39 3 rfl 0 31 i0 _ (.int .u64 0) 8 Try.underlying39 Try.underlying3 hi hz0 hz1 hz2 rfl rfl (.slice A0 O.length c0) O.length _ rfl (HF4.out.row h4c rfl).1 l.length rfl (by unfold maxLen; omega) (by omega) (Nat.zero_le _) ?_; intro v5 w5 hR5 hg5 hat5
       obtain ⟨hm5, h5f, ⟨x5, h5c⟩, h6c⟩ := HF4.out.zeros rfl h4c hR5 hg5 hat5
       have b5 : w5.cell? ⟨w.heap.size, 3, none⟩ = some (.slice A l.length c) := hm5.box HM.out hne p3
       obtain ⟨A5, c5, rfl, hA5, hC5⟩ := ownsRow_form hR5
       have HM5 := Lib.hid (hm5.from_ HBQ.out); clear hm5 hR5 hg5 hat5))
  obtain ⟨w6, hw6⟩ : ∃ x, w5.setCell ⟨gO, 0, none⟩ (.slice A5 (O.length + l.length) c5) = x := ⟨_, rfl⟩
  rw [hw6] at HM5 ⊢
  clear hw6 h6c h5c h5f b5 hA5 hC5 h4c HF4 HBQ
  have HS0 := Lib.hid (show (numsL (l.take 0) L).1 = true ∧ FMoved w0 M B g gO (numsL (l.take 0) L).2 (mid (ix (numsL (l.take 0) L).2) O 9 0 l 0) w6 from by
    rw [List.take_zero, numsL_nil, mid_zero]
    rw [show hd 9 0 l.length = [] from rfl, List.append_nil]
    exact ⟨rfl, HM5.out⟩)
  clear HM5
  go_loopw [89] (fun x wr => ∃ i : Nat, i ≤ l.length ∧ x = .int .i64 (i : Int) ∧ (numsL (l.take i) L).1 = true ∧ FMoved w0 M B g gO (numsL (l.take i) L).2 (mid (ix (numsL (l.take i) L).2) O 9 0 l i) wr) (fun x _ => l.length - (intOf x).toNat)
  case atStart => exact ⟨0, Nat.zero_le _, rfl, HS0.out⟩
  case round =>
    obtain ⟨i, hi, rfl, hok, hm⟩ := hrel
    have HMR := Lib.hid hm
    have HOK := Lib.hid hok
    clear hm hok
    by_cases hlt : i < l.length
    · obtain ⟨u, hu⟩ : ∃ u, l[i]? = some u := ⟨_, List.getElem?_eq_getElem hlt⟩
      obtain ⟨M9, hF9, hs9, hk9⟩ := HMR.out
      have hG9 : ∀ b, G b → b < wr.heap.size ∧ ¬ M9 b := fun b hb => by
        have h1 := HG.out b hb; have h2 := HB0.out.size; have h3 := hk9.size
        refine ⟨by omega, fun hm => ?_⟩
        rcases hs9 b hm with h | h; exact h1.2 h; omega
      have hts9 := HTS.out.keepF hk9 (fun b hb => by have := HG.out b hb; have := HB0.out.size; omega) (fun b hb => (HG.out b hb).2)
      obtain ⟨b, o, A1, c1, rfl, hb1, d0, d1, d2, d3, ok1, hts1⟩ := hts9.at_ hu
      have hv9 := HV0.out.keep hk9 hs9
      have hfl : wr.cell? ⟨gL, 0, none⟩ = some (.func (.func 52) #[] #[.pointer (some ⟨gO, 0, none⟩), .pointer (some ⟨gA, 0, none⟩), .pointer (some ⟨gL, 0, none⟩)]) := hv9.2.1
      have HBD := Lib.hid (mid_bound (ix (numsL (l.take i) L).2) O 9 0 ⟨#[]⟩ (by unfold boxK; omega) hu)
      have hbx := ballocs (Below.refl wr.heap.size wr) (.cells #[.int .i64 u.k, .int .i64 u.n, .string u.s, .slice A1 u.l.length c1] 28)
      have HF9 := Lib.hid hF9; have HS9 := Lib.hid hs9; have HK9 := Lib.hid hk9; have HG9 := Lib.hid hG9; have HV9 := Lib.hid hv9; have HT9 := Lib.hid (TAt.of ok1 hts1); have HBX := Lib.hid hbx; have HU := Lib.hid hu
      have hgl : gL < wr.heap.size := World.block_lt_of_cell? _ _ hfl
      have hi0 : (0 : Int) ≤ (i : Int) := by omega
      have hil : (i : Int) < (l.length : Int) := by omega
      clear hF9 hs9 hk9 hG9 hts9 hv9 hbx hts1 ok1 hu
      go_wp2_with fail
      refine (HIH.out u (List.mem_of_getElem? HU.out) _ _ M9 G B g gO gA gL (numsL (l.take i) L).2 (mid (ix (numsL (l.take i) L).2) O 9 0 l i) (HF9.out.below HBX.out) (HT9.out.under HBX.out (fun b hb => (HG9.out b hb).1)) (fun b hb => ⟨by have := (HG9.out b hb).1; have := HBX.out.size; omega, (HG9.out b hb).2⟩) (HV9.out.keep (Keep.new (F := M9) HBX.out) (fun k h => .inl h)) (HSL.out u (List.mem_of_getElem? HU.out)) (by have h1 := HBD.out; have h2 := HO.out; omega)).mono ?_
      rintro e w7 (⟨h1, rfl, hm⟩ | ⟨h1, y, O2, rfl, hy, hm⟩)
      · have HM7 := Lib.hid hm
        have H1 := Lib.hid h1
        obtain ⟨M10, hF10, hs10, hk10⟩ := hm
        obtain ⟨N, hN⟩ : ∃ N, (mid (ix (numsL (l.take i) L).2) O 9 0 l i ++ lay (ix (nums u (numsL (l.take i) L).2).2) u (mid (ix (numsL (l.take i) L).2) O 9 0 l i).length).length = N := ⟨_, rfl⟩
        have hiN : O.length + i < N := by
          rw [← hN, List.length_append, mid_len _ _ _ _ _ (by omega)]
          have : (hd 9 0 l.length).length = 0 := rfl
          omega
        obtain ⟨r, cr, hcr, hcr1, hcr2, ⟨x9, hx9⟩, hfz9, hst⟩ := hF10.store (by rw [hN]; exact hiN)
        rw [hN] at hcr hcr1
        have HST := Lib.hid hst
        have HN := Lib.hid hN
        have HS10 := Lib.hid hs10; have HK10 := Lib.hid hk10
        clear hF10 hst hN h1 hs10 hk10
        go_wp2_with fail
        refine ⟨⟨i + 1, by omega, rfl, ?_, ?_⟩, by simp [intOf]; omega⟩
        · rw [numsL_snoc L HU.out HOK.out]; exact H1.out
        · rw [numsL_snoc L HU.out HOK.out]
          have hms := mid_step (f := ix (numsL (l.take i) L).2) (f' := ix (nums u (numsL (l.take i) L).2).2) O 9 0 HU.out (fun s hs => (ix_ext (numsL_in HOK.out s hs) (nums_ext u _)).symm)
          rw [← hms]
          exact (((HST.out _).then_ HS10.out HK10.out).from_ HBX.out).then_ HS9.out HK9.out
      · have HM7 := Lib.hid hm
        have H1 := Lib.hid h1
        have HY := Lib.hid hy
        clear h1 hm
        go_wp2_with fail
        go_ret2
        refine .inr ?_
        rw [nums_mk, if_neg (by decide), numsL_stop HU.out HOK.out H1.out]
        exact ⟨rfl, y, O2, rfl, HY.out, ((HM7.out.from_ HBX.out).then_ HS9.out HK9.out).from_ HB0.out⟩
    · obtain rfl : i = l.length := by omega
      have b0 : wr.cell? ⟨w.heap.size, 0, none⟩ = some (.int .i64 9) := HMR.out.at_ HM.out p0
      go_wp2_with (first
        | (go_at_call 36; refine (HP.out _).mono ?_; rintro e w9 ⟨rfl, hb9⟩; have HB9 := Lib.hid hb9; clear hb9))
      go_ret2
      have h1 := HMR.out
      have h2 := HOK.out
      rw [List.take_length] at h1 h2
      rw [mid_end _ O 9 0 ⟨#[]⟩ l (by unfold boxK; omega)] at h1
      refine .inl ?_
      rw [nums_mk, if_neg (by decide)]
      refine ⟨h2, ?_, (h1.trans HB9.out (fun M' h _ _ => FMoved.stay h)).from_ HB0.out⟩
      refine ret2_wi ?_ rfl
      rw [ownW_mk, if_neg (by decide), if_pos (by unfold boxK; omega)]
end Go.Proofs.Ytnedjmjcbmoknaa.Fl
