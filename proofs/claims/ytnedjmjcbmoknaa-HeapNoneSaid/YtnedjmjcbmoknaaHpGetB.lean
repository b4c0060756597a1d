/- Get's build at boxed words, by its contract. (Printed by mk_hpgetb.py.) -/
import Derived.Test.YtnedjmjcbmoknaaHpGetA
namespace Go.Proofs.Ytnedjmjcbmoknaa.Hp
open Go.RowKit K At Wd Fl
set_option linter.unusedVariables false
set_option linter.unusedSimpArgs false

def BuildAt (L : List ByteArray) (H : List It) (t : Tm) (u : Int) : Prop := ∀ (n : Int) (w : World) (F : Nat → Prop) (gh g : Nat) (lim : Int) (gl gp gb : Nat), GE w F gh g L lim H gl gp gb → Blk w gl 3 #[.int .i64 n] → wds t ≤ n → n ≤ 65536 →
  Calls Try.prog 41 #[.int .u64 u, .pointer (some ⟨gl, 0, none⟩), .pointer (some ⟨gp, 0, none⟩), .pointer (some ⟨gb, 0, none⟩)] w (BP w gl t n)
theorem parts_hp {w : World} {F : Nat → Prop} {gh g : Nat} {L : List ByteArray} {lim : Int} {H : List It} (h : Hp w F gh g L lim H) {u : Int} (hu : U64 u) {x : It} (hk : unK u = x.k) (hx : itAt H (unN u) = some x) :
    Calls Try.prog 39 #[.pointer (some ⟨gh, 0, none⟩), .int .u64 u] w fun e w' => ∃ r, F r ∧ PartPost x r w e w' := by
  obtain ⟨hb, FT, v, bm, N, D, hq, _⟩ := h
  obtain ⟨A, c, rfl, hc1, hc2, c0, c1, c2, c3⟩ := hq.cells
  obtain ⟨s1, s2, s3⟩ := itAt_seg hx
  have hok := hb.wf.ok x (itAt_mem hx)
  have hp := hok.pos
  obtain ⟨r, c', hv, k1, k2, k3, k4, k5⟩ := ownsRow_at hq.row (k := 0) (by omega)
  injection hv with e1 _ e2
  subst e1 e2
  have hlim := hb.lim1
  have hhl := hb.hl
  refine (parts_any gh r (hW H).length c (unN u).toNat (hW H) x u w hu hk (by omega) hok s3 (by omega) rfl (by omega) hc1 hc2 c2 (fun j u hu => k5 j _ (by unfold u64s; rw [List.getElem?_map, hu]; rfl))).mono ?_
  intro e w' hpost
  exact ⟨r, hq.fv r rfl, hpost⟩
theorem wdsL_take_le (l : List Tm) (i : Nat) : wdsL (l.take i) ≤ wdsL l := by
  have h : wdsL (l.take i) + wdsL (l.drop i) = wdsL l := by rw [← wdsL_append, List.take_append_drop]
  have := (wdsL_range (l.drop i)).1
  omega
theorem left_newk {w w2 : World} {gl : Nat} {cs : Array Value} {n m : Int} (hb : Keep (fun b => b = gl) w w2) (hz : Blk w2 w.heap.size 28 tz) (hl : Blk w2 gl 3 #[.int .i64 n]) (hw : gl < w.heap.size) :
    Blk ((w2.setCell ⟨gl, 0, none⟩ (.int .i64 m)).alloc (.cells cs 28)) w2.heap.size 28 cs ∧ Blk ((w2.setCell ⟨gl, 0, none⟩ (.int .i64 m)).alloc (.cells cs 28)) w.heap.size 28 tz ∧ Blk ((w2.setCell ⟨gl, 0, none⟩ (.int .i64 m)).alloc (.cells cs 28)) gl 3 #[.int .i64 m] ∧ Keep (fun b => b = gl) w ((w2.setCell ⟨gl, 0, none⟩ (.int .i64 m)).alloc (.cells cs 28)) := by
  have e0 : (w2.setCell ⟨gl, 0, none⟩ (.int .i64 m)).heap.size = w2.heap.size := by simp [World.setCell]
  have h1 := Blk.new (w2.setCell ⟨gl, 0, none⟩ (.int .i64 m)) 28 cs
  rw [e0] at h1
  exact ⟨h1, (hz.far (by show w.heap.size ≠ gl; omega) _).alloc _, by have := (hl.set_ 0 (.int .i64 m)).alloc (.cells cs 28); simpa using this, (hb.setCell (p := ⟨gl, 0, none⟩) (.inl rfl) _).alloc _⟩
theorem left_new2 {w w2 : World} {gl : Nat} {cs : Array Value} {n n' m : Int} (hb : Below w.heap.size w w2) (hz : Blk w2 w.heap.size 28 tz) (hl : Blk w2 gl 3 #[.int .i64 n]) (hw : gl < w.heap.size) :
    Blk (((w2.setCell ⟨gl, 0, none⟩ (.int .i64 n')).setCell ⟨gl, 0, none⟩ (.int .i64 m)).alloc (.cells cs 28)) w2.heap.size 28 cs ∧ Blk (((w2.setCell ⟨gl, 0, none⟩ (.int .i64 n')).setCell ⟨gl, 0, none⟩ (.int .i64 m)).alloc (.cells cs 28)) w.heap.size 28 tz ∧ Blk (((w2.setCell ⟨gl, 0, none⟩ (.int .i64 n')).setCell ⟨gl, 0, none⟩ (.int .i64 m)).alloc (.cells cs 28)) gl 3 #[.int .i64 m] ∧ Keep (fun b => b = gl) w (((w2.setCell ⟨gl, 0, none⟩ (.int .i64 n')).setCell ⟨gl, 0, none⟩ (.int .i64 m)).alloc (.cells cs 28)) := by
  have e0 : (w2.setCell ⟨gl, 0, none⟩ (.int .i64 n')).heap.size = w2.heap.size := by simp [World.setCell]
  have h := left_newk (m := m) (cs := cs) ((Keep.new (F := fun b => b = gl) hb).setCell (p := ⟨gl, 0, none⟩) (.inl rfl) (.int .i64 n')) (hz.far (p := ⟨gl, 0, none⟩) (by show w.heap.size ≠ gl; omega) _) (n := n') (by have := hl.set_ 0 (.int .i64 n'); simpa using this) hw
  rw [e0] at h
  exact h
set_option maxRecDepth 100000 in
set_option maxHeartbeats 8000000 in
theorem build_box9 (x : It) (p : Nat) (l : List Tm) (u n : Int) (w : World) (F : Nat → Prop) (gh g : Nat) (L : List ByteArray) (lim : Int) (H : List It) (gl gp gb : Nat) (hE : GE w F gh g L lim H gl gp gb) (hL : Blk w gl 3 #[.int .i64 n]) (hu : U64 u) (hk : unK u = 9) (hn : unN u = (p : Int)) (hy : unE u = 0) (hxk : x.k = 9) (hat : itAt H (p : Int) = some x) (hl : x.ws.length = l.length) (IH : ∀ (i : Nat) (t : Tm) (v : Int), l[i]? = some t → x.ws[i]? = some v → BuildAt L H t v) (h1 : wds (.mk 9 x.n ⟨#[]⟩ l) ≤ n) (h6 : n ≤ 65536) : Calls Try.prog 41 #[.int .u64 u, .pointer (some ⟨gl, 0, none⟩), .pointer (some ⟨gp, 0, none⟩), .pointer (some ⟨gb, 0, none⟩)] w (BP w gl (.mk 9 x.n ⟨#[]⟩ l) n) := by
  have hok := hE.hp.1.wf.ok x (itAt_mem hat)
  have HPT := Lib.hid (fun (w' : World) (h : GE w' F gh g L lim H gl gp gb) => parts_hp h.hp hu (hk.trans hxk.symm) (hn ▸ hat))
  have hlen := hok.len
  have HWD := Lib.hid (show wds (.mk 9 x.n ⟨#[]⟩ l) = 1 + wdsL l from by rw [wds_mk]; unfold ownN hasB; simp)
  have HUR := Lib.hid (un_range hu)
  have hx0 : x.n = 0 := (hok.cons hxk).1
  have HIT := Lib.hid (show itN x = 0 from by unfold itN; rw [if_pos hxk])
  rw [hx0] at h1 HWD ⊢
  obtain ⟨m, hm⟩ : ∃ m, x.ws.length = m := ⟨_, rfl⟩
  have hlm : l.length = m := by omega
  rw [hm] at hlen
  have h1' : wdsL l + 1 ≤ n := by have := HWD.out; omega
  have hw0 := (wdsL_range l).1
  have HM := Lib.hid hm; have HLM := Lib.hid hlm; have HIH := Lib.hid IH
  obtain ⟨ws, hws⟩ : ∃ ws, x.ws = ws := ⟨_, rfl⟩
  clear hok hat hl IH hm hlm h1 hxk hx0
  have HUN := Lib.hid (fun w => unpack_as hu hk hn hy w)
  have hgl : gl < w.heap.size := hL.lt
  have hz := Blk.new w 28 #[.int .i64 0, .int .i64 0, .string ⟨#[]⟩, .slice none 0 0]
  have hb0 := ballocs (Below.refl w.heap.size w) (.cells #[.int .i64 0, .int .i64 0, .string ⟨#[]⟩, .slice none 0 0] 28)
  have HZ := Lib.hid hz; have HB0 := Lib.hid hb0; have HE := Lib.hid hE; have HL := Lib.hid hL
  clear hz hb0 hL hk hn hy hE
  go_enter Try.func41, Try.ntmps41
  go_wp2_with fail
  obtain ⟨w1, hw1⟩ : ∃ x, w.alloc (.cells #[.int .i64 0, .int .i64 0, .string ⟨#[]⟩, .slice none 0 0] 28) = x := ⟨_, rfl⟩
  rw [hw1] at HZ HB0 ⊢
  clear hw1
  go_step3
  go_wp2_with fail
  refine (HUN.out w1).mono ?_
  rintro e w2 ⟨rfl, hb2⟩
  have hr2 := (HL.out.below HB0.out HL.out.lt).below hb2 (Nat.lt_of_lt_of_le HL.out.lt HB0.out.size)
  have hz2 := HZ.out.below hb2 HZ.out.lt
  have hlt2 : gl < w2.heap.size := Blk.lt hr2
  have hlz2 : w.heap.size < w2.heap.size := hz2.lt
  have q0 : w2.cell? ⟨gl, 0, none⟩ = some (.int .i64 n) := by rw [hr2.cell]; rfl
  have f0 := hr2.frozen 0
  obtain ⟨z0, z1, z2, z3, y0, y1, y2, y3⟩ := hz2.four
  have hb02 := fbelow HB0.out hb2
  have hE2 := HE.out.below hb02
  have p0 : w2.cell? ⟨gp, 0, none⟩ = some (.pointer (some ⟨gh, 0, none⟩)) := by rw [hE2.bp.cell]; rfl
  have hgp2 : gp < w2.heap.size := hE2.bp.lt
  have hnp := HE.out.np
  have HB02 := Lib.hid hb02; have HR2 := Lib.hid hr2; have HZ2 := Lib.hid hz2
  clear hb2 hr2 hz2 hb02 hE2
  go_wp2_with fail
  obtain ⟨hg3, hz3, hl3, hk3⟩ := left_new (m := n - 1) (cs := #[.int .i64 9, .int .i64 (p : Int), .string ⟨#[]⟩, .slice none 0 0]) HB02.out HZ2.out HR2.out hgl
  obtain ⟨w3, hw3⟩ : ∃ x, (w2.setCell ⟨gl, 0, none⟩ (.int .i64 (n - 1))).alloc (.cells #[.int .i64 9, .int .i64 (p : Int), .string ⟨#[]⟩, .slice none 0 0] 28) = x := ⟨_, rfl⟩
  rw [hw3] at hg3 hz3 hl3 hk3 ⊢
  clear hw3
  obtain ⟨G8, hG8⟩ : ∃ G8, w2.heap.size = G8 := ⟨_, rfl⟩
  rw [hG8] at hg3 hlt2 hlz2 ⊢
  have hn8 : G8 ≠ gl := by omega
  have hn81 : G8 ≠ w.heap.size := by omega
  have hE3 := HE.out.keep hk3
  have HPC := Lib.hid (HPT.out w3 hE3)
  have HG3 := Lib.hid hg3; have HZ3 := Lib.hid hz3; have HL3 := Lib.hid hl3; have HK3 := Lib.hid hk3; have HE3 := Lib.hid hE3
  clear hg3 hz3 hl3 hk3 hE3 q0 f0 z0 z1 z2 z3 y0 y1 y2 y3 p0 hG8 hgp2
  refine HPC.out.mono ?_
  rintro e w5 ⟨r, hFr, A', c', he, hb5, ha5, h05, hc5, hr5⟩
  have hrl : r < w.heap.size := HE.out.hp.lt r hFr
  have hrn : r ≠ gl := fun e => HE.out.nl (e ▸ hFr)
  rw [HIT.out, HM.out] at he
  subst he
  rw [HM.out] at hr5 hc5
  have HWS := Lib.hid (fun wr (hk : Keep (fun b => b = gl) w wr) => hr5 wr (fun j => (hk.cell (p := ⟨r, j, none⟩) hrl hrn).trans (HK3.out.cell (p := ⟨r, j, none⟩) hrl hrn).symm) (Nat.lt_of_lt_of_le hrl hk.size))
  have hg5 := HG3.out.below hb5 HG3.out.lt
  have hz5 := HZ3.out.below hb5 HZ3.out.lt
  have hl5 := HL3.out.below hb5 HL3.out.lt
  have hk5 := HK3.out.trans (Keep.new (F := fun b => b = gl) hb5) (fun _ _ h => h)
  clear hr5 hb5 ha5 h05 HG3 HZ3 HL3 HK3
  obtain ⟨o0, o1, o2, o3, u0, u1, u2, u3⟩ := hg5.four
  obtain ⟨z0, z1, z2, z3, y0, y1, y2, y3⟩ := hz5.four
  have q0 : w5.cell? ⟨gl, 0, none⟩ = some (.int .i64 (n - 1)) := by rw [hl5.cell]; rfl
  have hlt5 : gl < w5.heap.size := hl5.lt
  have hl85 : G8 < w5.heap.size := hg5.lt
  obtain ⟨hg6, hz6, hl6, hk6⟩ := g8_set (m := 0) hg5 hz5 hl5 hk5 hn8 hlz2
  have HI0 := Lib.hid (show GI w _ gl l G8 9 0 (n - 1) 0 from ⟨_, by rw [List.take_zero, wdsL_nil, Int.sub_zero]; exact hl6, hz6, hg6, TRow.none_ _ _ _, hk6⟩)
  have HZ5 := Lib.hid hz5; have HG5 := Lib.hid hg5
  clear hg5 hz5 hl5 hk5 hg6 hz6 hl6 hk6
  obtain ⟨i0, hin, hy0, hy1, hy2⟩ := info_parts infoT
  go_wp2_with fail
  go_step3
  go_wp2_with fail
  go_loopw [62] (fun x wr => ∃ i : Nat, i ≤ m ∧ x = .int .i64 (i : Int) ∧ GI w wr gl l G8 9 0 (n - 1) i) (fun x _ => m - (intOf x).toNat)
  case atStart => exact ⟨0, Nat.zero_le _, rfl, HI0.out⟩
  case round =>
    obtain ⟨i, hi, rfl, row, hl, hz, hg, hrow, hk⟩ := hrel
    clear HI0
    obtain ⟨ts, hts⟩ : ∃ ts, l.take i = ts := ⟨_, rfl⟩
    rw [hts] at hrow
    have hll : ts.length = i := by have := HLM.out; rw [← hts, List.length_take]; omega
    obtain ⟨A3, c3, rfl, _, _, _⟩ := hrow.form
    have hwi : wdsL (l.take i) ≤ wdsL l := wdsL_take_le l i
    obtain ⟨nl, hnl⟩ : ∃ nl, n - 1 - wdsL (l.take i) = nl := ⟨_, rfl⟩
    have hnl0 : 0 ≤ nl := by omega
    have hnl1 : nl ≤ 65536 := by have := (wdsL_range (l.take i)).1; omega
    have qq : wr.cell? ⟨gl, 0, none⟩ = some (.int .i64 nl) := by rw [← hnl, hl.cell]; rfl
    have HG := Lib.hid hg; have HZR := Lib.hid hz; have HKR := Lib.hid hk; have HLL := Lib.hid hll; have HLR := Lib.hid hl; have HTS := Lib.hid hts; have HNL := Lib.hid hnl
    have hlr : gl < wr.heap.size := hl.lt
    have hl8r : G8 < wr.heap.size := hg.lt
    by_cases hlt : i < m
    · obtain ⟨u', hu'⟩ : ∃ u', ws[i]? = some u' := ⟨_, List.getElem?_eq_getElem (by have := HM.out; rw [hws] at this; omega)⟩
      obtain ⟨t, ht⟩ : ∃ t, l[i]? = some t := ⟨_, List.getElem?_eq_getElem (by have := HLM.out; omega)⟩
      obtain ⟨ad, uv, rfl, hab, huv, hcell⟩ := (HWS.out wr hk).at_ (k := i) hlt
      obtain rfl : uv = .int .u64 u' := u64_at (by rw [hws]; exact hu') huv
      have hle : wdsL (l.take i) + wds t ≤ wdsL l := by
        have := wdsL_take_le l (i + 1)
        rw [wdsL_take_succ ht] at this
        exact this
      have hEr := HE.out.keep hk.drew
      have HC := Lib.hid (HIH.out i t u' ht (by rw [hws]; exact hu') nl wr.drew F gh g lim gl gp gb hEr (hnl ▸ hl) (by omega) hnl1)
      obtain ⟨G, vs, hV, hG, hRw⟩ := hrow
      have HV := Lib.hid hV; have HGG := Lib.hid hG; have HRw := Lib.hid hRw; have HUT := Lib.hid ht; have HER := Lib.hid hEr
      have hS0 : wr.drew.cell? ⟨G8, 3, none⟩ = some (.slice A3 ts.length c3) ∧ wr.drew.cell? ⟨gb, 0, none⟩ = some (.func (.func 41) #[] #[.pointer (some ⟨gl, 0, none⟩), .pointer (some ⟨gp, 0, none⟩), .pointer (some ⟨gb, 0, none⟩)]) := ⟨hg.cell 3, hEr.bb.cell 0⟩
      have b1 : ts.length + 1 ≤ maxLen := by unfold maxLen; omega
      have b2 : (ts.length + 1) * 56 ≤ 140737488355328 := by omega
      have hi0 : (0 : Int) ≤ (i : Int) := by omega
      have him : (i : Int) < (m : Int) := by omega
      clear hl hz hg hk hu' ht huv hV hG hRw hll hts hnl hle hEr hwi h1' hw0 hws
      go_wp2_with fail
      refine Zed.begin (S := fun wx => wx.cell? ⟨G8, 3, none⟩ = some (.slice A3 ts.length c3) ∧ wx.cell? ⟨gb, 0, none⟩ = some (.func (.func 41) #[] #[.pointer (some ⟨gl, 0, none⟩), .pointer (some ⟨gp, 0, none⟩), .pointer (some ⟨gb, 0, none⟩)])) (z := 8) (by kernel_rfl) hS0 (fun hHeld => ?_)
      refine Zed.take (i := 0) (oi := ⟨some 68, _, _, _, _, _⟩) (v := ?_) rfl (by kernel_rfl) (by kernel_rfl) (by kernel_rfl) (by kernel_rfl) (fun _ _ _ h => h) (Or.inl ⟨by rfl, ?_⟩) (by assumption) ?_
      rotate_left
      · intro wS hSw; obtain ⟨hSa, hSb⟩ := hSw; go_simp; try with_reducible rfl
      try simp only [Act.put, List.setIfInBounds_toArray, List.set_cons_zero, List.set_cons_succ]
      refine Zed.take (i := 1) (oi := ⟨some 69, _, _, _, _, _⟩) (v := ?_) rfl (by kernel_rfl) (by kernel_rfl) (by kernel_rfl) (by kernel_rfl) (fun _ _ _ h => h) (Or.inl ⟨by rfl, ?_⟩) (by assumption) ?_
      rotate_left
      · intro wS hSw; obtain ⟨hSa, hSb⟩ := hSw; go_simp; try with_reducible rfl
      try simp only [Act.put, List.setIfInBounds_toArray, List.set_cons_zero, List.set_cons_succ]
      refine Zed.take (i := 2) (oi := ⟨some 70, _, _, _, _, _⟩) (v := ?_) rfl (by kernel_rfl) (by kernel_rfl) (by kernel_rfl) (by kernel_rfl) (fun _ _ _ h => h) (Or.inl ⟨by rfl, ?_⟩) (by assumption) ?_
      rotate_left
      · intro wS hSw; obtain ⟨hSa, hSb⟩ := hSw; go_simp; try with_reducible rfl
      try simp only [Act.put, List.setIfInBounds_toArray, List.set_cons_zero, List.set_cons_succ]
      refine Zed.take (i := 3) (oi := ⟨some 71, _, _, _, _, _⟩) (v := ?_) rfl (by kernel_rfl) (by kernel_rfl) (by kernel_rfl) (by kernel_rfl) (fun _ _ _ h => h) (Or.inl ⟨by rfl, ?_⟩) (by assumption) ?_
      rotate_left
      · intro wS hSw; obtain ⟨hSa, hSb⟩ := hSw; go_simp; try with_reducible rfl
      try simp only [Act.put, List.setIfInBounds_toArray, List.set_cons_zero, List.set_cons_succ]
      refine Zed.ready (rs := [4]) (by kernel_rfl) (by simp) ?_
      refine Zeach.cons (o := ⟨some 72, _, _, _, _, _⟩) rfl (fun K hK => ?_) Zeach.nil
      go_simp
      go_at_call 41
      refine HC.out.mono ?_
      rintro e w6 hpost
      obtain ⟨k6, m6, s6, A6, l6, c6, rfl, hk6, ht6, hb6⟩ := hpost.form
      have hk6r := (Keep.refl (fun b => b = gl) wr).drew.trans hk6 (fun _ _ h => h)
      have hg6 := HG.out.keep hk6r hn8
      have hf6 := (HER.out.keep hk6).bb
      have hS6 : w6.cell? ⟨G8, 3, none⟩ = some (.slice A3 ts.length c3) := hg6.cell 3
      have hS7 : ∀ o, (w6.alloc o).cell? ⟨G8, 3, none⟩ = some (.slice A3 ts.length c3) := fun o => (hg6.alloc o).cell 3
      have hF6 := hf6.cell 0
      have hF7 := fun o => (hf6.alloc o).cell 0
      have HK6 := Lib.hid hk6r; have HG6 := Lib.hid hg6; have HT6 := Lib.hid ht6; have HB6 := Lib.hid hb6; have HS7 := Lib.hid hS7; have HF6 := Lib.hid hF6; have HF7 := Lib.hid hF7; have HFB := Lib.hid hf6
      clear hpost hk6 hk6r hg6 ht6 hb6 hS7 hF6 hF7 hf6
      go_wp2_with fail
      refine hK.out _ _ ⟨hS6, HF6.out⟩ (fun hHeld => ?_)
      clear hK K
      try simp only [Act.put, List.setIfInBounds_toArray, List.set_cons_zero, List.set_cons_succ]
      refine Zed.ready (rs := [5]) (by kernel_rfl) (by simp) ?_
      refine Zeach.cons (o := ⟨some 73, _, _, _, _, _⟩) rfl (fun K hK => ?_) Zeach.nil
      go_simp
      refine hK.out _ _ ⟨HS7.out _, HF7.out _⟩ (fun hHeld => ?_)
      clear hK K
      try simp only [Act.put, List.setIfInBounds_toArray, List.set_cons_zero, List.set_cons_succ]
      refine Zed.ready (rs := [6]) (by kernel_rfl) (by simp) ?_
      refine Zeach.cons (o := ⟨some 74, _, _, _, _, _⟩) rfl (fun K hK => ?_) Zeach.nil
      have hR7 := (ownsRow_keep HRw.out HK6.out (fun r hr (e : r = gl) => by have := (HRw.out.lt r hr).1; omega)).alloc (.cells #[.int .i64 k6, .int .i64 m6, .string s6, .slice A6 l6 c6] 28)
      have hc4 := cells4_new w6 (.int .i64 k6) (.int .i64 m6) (.string s6) (.slice A6 l6 c6) 28
      have b3 : G8 + 1 ≤ (w6.alloc (.cells #[.int .i64 k6, .int .i64 m6, .string s6, .slice A6 l6 c6] 28)).heap.size := by have := HG6.out.lt; simp; omega
      obtain ⟨v3, w3, run3, hR3, hg3, _, hat3⟩ := run_append_own_at (P := Try.prog) (w6.alloc (.cells #[.int .i64 k6, .int .i64 m6, .string s6, .slice A6 l6 c6] 28)) (G8 + 1) 26 26 28 i0 _ 4 56 Try.underlying26 hin hy0 hy1 hy2 rfl (by decide) (.slice A3 ts.length c3) ts.length _ hR7 ⟨w6.heap.size, 0, none⟩ 1 1 [.int .i64 k6, .int .i64 m6, .string s6, .slice A6 l6 c6] rfl hc4 (one4 _ _ _ _ _ _) b1 b2 b3
      obtain ⟨A5, c5, rfl, _, _⟩ := ownsRow_form hR3
      have hg23 := (HG6.out.alloc (.cells #[.int .i64 k6, .int .i64 m6, .string s6, .slice A6 l6 c6] 28)).grown hg3 (fun e => by have := (HRw.out.lt _ e.symm).1; omega)
      have hfb3 := (HFB.out.alloc (.cells #[.int .i64 k6, .int .i64 m6, .string s6, .slice A6 l6 c6] 28)).grown hg3 (fun e => by have := (HRw.out.lt _ e.symm).1; have := HE.out.bb.lt; omega)
      have hF8 := hfb3.cell 0
      obtain ⟨x0, x1, x2, x3, y0, y1, y2, y3⟩ := hg23.four
      have HKP := Lib.hid (fun v => g_keeps hgl hlz2 HZR.out HG.out HKR.out HK6.out hg3 (fun r hr => HRw.out.lt r hr) v)
      have HR3 := Lib.hid hR3; have HG3 := Lib.hid hg3; have HAT3 := Lib.hid hat3
      clear hR3 hg3 hat3 hg23 hR7 hc4 b3 hfb3
      refine step_append_run (.tmp 69) (.tmp 73) 26 _ _ _ run3 rfl rfl (by simp [Act.eval, Act.put]) (by simp [Act.eval, Act.put]) ?_
      refine hK.out _ _ ⟨x3, hF8⟩ (fun hHeld => ?_)
      clear hK K
      try simp only [Act.put, List.setIfInBounds_toArray, List.set_cons_zero, List.set_cons_succ]
      refine Zed.take (i := 7) (oi := ⟨some 75, _, _, _, _, _⟩) (v := ?_) rfl (by kernel_rfl) (by kernel_rfl) (by kernel_rfl) (by kernel_rfl) (fun _ _ _ h => h) (Or.inl ⟨by rfl, ?_⟩) (by assumption) ?_
      rotate_left
      · intro wS hSw; obtain ⟨hSa, hSb⟩ := hSw; go_simp; try with_reducible rfl
      try simp only [Act.put, List.setIfInBounds_toArray, List.set_cons_zero, List.set_cons_succ]
      refine Zed.ready (rs := [8]) (by kernel_rfl) (by simp) ?_
      refine Zeach.last (o := ⟨none, _, _, _, _, _⟩) rfl (fun K hK => ?_)
      go_simp
      refine hK.out _ _ ?_
      clear hK K
      try simp only [Act.put, List.setIfInBounds_toArray, List.set_cons_zero, List.set_cons_succ]
      refine Zed.done (by kernel_rfl) ?_ _
      have HI := Lib.hid (GI.step (i := i) hgl hlz2 HTS.out.symm HUT.out HZR.out HG.out HKR.out HV.out HGG.out HRw.out HK6.out HT6.out (HNL.out ▸ HB6.out) HG3.out HR3.out HAT3.out)
      obtain ⟨w9, hw9⟩ : ∃ x, w3.setCell ⟨G8, 3, none⟩ (.slice A5 (ts.length + 1) c5) = x := ⟨_, rfl⟩
      rw [hw9] at HI ⊢
      clear hw9 x0 x1 x2 x3 y0 y1 y2 y3 hS6 run3 HKP HR3 HG3 HAT3
      go_wp2_with fail
      exact ⟨⟨i + 1, by omega, by go_num, HI.out⟩, by simp [intOf]; omega⟩
    · obtain rfl : i = m := by omega
      have hfull : l.take i = l := List.take_of_length_le (by have := HLM.out; omega)
      rw [hfull] at hl hts
      subst hts
      have HD := Lib.hid (GI.done (k := 9) (x := 0) (n := n - 1) (n0 := n) hgl hlz2 (by decide) (by decide) (by have := HWD.out; omega) hl hrow hk)
      obtain ⟨z0, z1, z2, z3, t0, t1, t2, t3⟩ := hz.four
      obtain ⟨o0, o1, o2, o3, _, _, _, _⟩ := hg.four
      clear hl hz hg hrow hk hll hnl hfull
      go_wp2_with fail
      obtain ⟨r0, r1, r2, r3, _, _, _, _⟩ := (put4_blk HZR.out (.int .i64 9) (.int .i64 0) (.string ⟨#[]⟩) (.slice A3 l.length c3)).four
      unfold put4 at r0 r1 r2 r3
      try rw [Exit.noGoto_ret]
      exact bodyPost_ret (v := .agg #[.int .i64 9, .int .i64 0, .string ⟨#[]⟩, .slice A3 l.length c3]) (by simp [results, Try.results41, go_sem, r0, r1, r2, r3]) rfl HD.out
set_option maxRecDepth 100000 in
set_option maxHeartbeats 8000000 in
theorem build_box7 (x : It) (p : Nat) (l : List Tm) (u n : Int) (w : World) (F : Nat → Prop) (gh g : Nat) (L : List ByteArray) (lim : Int) (H : List It) (gl gp gb : Nat) (hE : GE w F gh g L lim H gl gp gb) (hL : Blk w gl 3 #[.int .i64 n]) (hu : U64 u) (hk : unK u = 7) (hn : unN u = (p : Int)) (hy : unE u = 0) (hxk : x.k = 7) (hat : itAt H (p : Int) = some x) (hl : x.ws.length = l.length) (IH : ∀ (i : Nat) (t : Tm) (v : Int), l[i]? = some t → x.ws[i]? = some v → BuildAt L H t v) (h1 : wds (.mk 7 x.n ⟨#[]⟩ l) ≤ n) (h6 : n ≤ 65536) : Calls Try.prog 41 #[.int .u64 u, .pointer (some ⟨gl, 0, none⟩), .pointer (some ⟨gp, 0, none⟩), .pointer (some ⟨gb, 0, none⟩)] w (BP w gl (.mk 7 x.n ⟨#[]⟩ l) n) := by
  have hok := hE.hp.1.wf.ok x (itAt_mem hat)
  have HPT := Lib.hid (fun (w' : World) (h : GE w' F gh g L lim H gl gp gb) => parts_hp h.hp hu (hk.trans hxk.symm) (hn ▸ hat))
  have hlen := hok.len
  have HWD := Lib.hid (show wds (.mk 7 x.n ⟨#[]⟩ l) = 2 + wdsL l from by rw [wds_mk]; unfold ownN hasB; simp)
  have HUR := Lib.hid (un_range hu)
  have hx0 : x.n = 0 := hok.tup hxk
  have HIT := Lib.hid (show itN x = (x.ws.length : Int) from by unfold itN; rw [if_neg (by omega), if_neg (by omega)])
  rw [hx0] at h1 HWD ⊢
  obtain ⟨m, hm⟩ : ∃ m, x.ws.length = m := ⟨_, rfl⟩
  have hlm : l.length = m := by omega
  rw [hm] at hlen
  have h1' : wdsL l + 2 ≤ n := by have := HWD.out; omega
  have hw0 := (wdsL_range l).1
  have HM := Lib.hid hm; have HLM := Lib.hid hlm; have HIH := Lib.hid IH
  obtain ⟨ws, hws⟩ : ∃ ws, x.ws = ws := ⟨_, rfl⟩
  clear hok hat hl IH hm hlm h1 hxk hx0
  have HUN := Lib.hid (fun w => unpack_as hu hk hn hy w)
  have hgl : gl < w.heap.size := hL.lt
  have hz := Blk.new w 28 #[.int .i64 0, .int .i64 0, .string ⟨#[]⟩, .slice none 0 0]
  have hb0 := ballocs (Below.refl w.heap.size w) (.cells #[.int .i64 0, .int .i64 0, .string ⟨#[]⟩, .slice none 0 0] 28)
  have HZ := Lib.hid hz; have HB0 := Lib.hid hb0; have HE := Lib.hid hE; have HL := Lib.hid hL
  clear hz hb0 hL hk hn hy hE
  go_enter Try.func41, Try.ntmps41
  go_wp2_with fail
  obtain ⟨w1, hw1⟩ : ∃ x, w.alloc (.cells #[.int .i64 0, .int .i64 0, .string ⟨#[]⟩, .slice none 0 0] 28) = x := ⟨_, rfl⟩
  rw [hw1] at HZ HB0 ⊢
  clear hw1
  go_step3
  go_wp2_with fail
  refine (HUN.out w1).mono ?_
  rintro e w2 ⟨rfl, hb2⟩
  have hr2 := (HL.out.below HB0.out HL.out.lt).below hb2 (Nat.lt_of_lt_of_le HL.out.lt HB0.out.size)
  have hz2 := HZ.out.below hb2 HZ.out.lt
  have hlt2 : gl < w2.heap.size := Blk.lt hr2
  have hlz2 : w.heap.size < w2.heap.size := hz2.lt
  have q0 : w2.cell? ⟨gl, 0, none⟩ = some (.int .i64 n) := by rw [hr2.cell]; rfl
  have f0 := hr2.frozen 0
  obtain ⟨z0, z1, z2, z3, y0, y1, y2, y3⟩ := hz2.four
  have hb02 := fbelow HB0.out hb2
  have hE2 := HE.out.below hb02
  have p0 : w2.cell? ⟨gp, 0, none⟩ = some (.pointer (some ⟨gh, 0, none⟩)) := by rw [hE2.bp.cell]; rfl
  have hgp2 : gp < w2.heap.size := hE2.bp.lt
  have hnp := HE.out.np
  have HB02 := Lib.hid hb02; have HR2 := Lib.hid hr2; have HZ2 := Lib.hid hz2
  clear hb2 hr2 hz2 hb02 hE2
  go_wp2_with fail
  obtain ⟨hg3, hz3, hl3, hk3⟩ := left_new2 (m := n - 1 - 1) (cs := #[.int .i64 7, .int .i64 (p : Int), .string ⟨#[]⟩, .slice none 0 0]) HB02.out HZ2.out HR2.out hgl
  obtain ⟨w3, hw3⟩ : ∃ x, ((w2.setCell ⟨gl, 0, none⟩ (.int .i64 (n - 1))).setCell ⟨gl, 0, none⟩ (.int .i64 (n - 1 - 1))).alloc (.cells #[.int .i64 7, .int .i64 (p : Int), .string ⟨#[]⟩, .slice none 0 0] 28) = x := ⟨_, rfl⟩
  rw [hw3] at hg3 hz3 hl3 hk3 ⊢
  clear hw3
  obtain ⟨G8, hG8⟩ : ∃ G8, w2.heap.size = G8 := ⟨_, rfl⟩
  rw [hG8] at hg3 hlt2 hlz2 ⊢
  have hn8 : G8 ≠ gl := by omega
  have hn81 : G8 ≠ w.heap.size := by omega
  have hE3 := HE.out.keep hk3
  have HPC := Lib.hid (HPT.out w3 hE3)
  have HG3 := Lib.hid hg3; have HZ3 := Lib.hid hz3; have HL3 := Lib.hid hl3; have HK3 := Lib.hid hk3; have HE3 := Lib.hid hE3
  clear hg3 hz3 hl3 hk3 hE3 q0 f0 z0 z1 z2 z3 y0 y1 y2 y3 p0 hG8 hgp2
  refine HPC.out.mono ?_
  rintro e w5 ⟨r, hFr, A', c', he, hb5, ha5, h05, hc5, hr5⟩
  have hrl : r < w.heap.size := HE.out.hp.lt r hFr
  have hrn : r ≠ gl := fun e => HE.out.nl (e ▸ hFr)
  rw [HIT.out, HM.out] at he
  subst he
  rw [HM.out] at hr5 hc5
  have HWS := Lib.hid (fun wr (hk : Keep (fun b => b = gl) w wr) => hr5 wr (fun j => (hk.cell (p := ⟨r, j, none⟩) hrl hrn).trans (HK3.out.cell (p := ⟨r, j, none⟩) hrl hrn).symm) (Nat.lt_of_lt_of_le hrl hk.size))
  have hg5 := HG3.out.below hb5 HG3.out.lt
  have hz5 := HZ3.out.below hb5 HZ3.out.lt
  have hl5 := HL3.out.below hb5 HL3.out.lt
  have hk5 := HK3.out.trans (Keep.new (F := fun b => b = gl) hb5) (fun _ _ h => h)
  clear hr5 hb5 ha5 h05 HG3 HZ3 HL3 HK3
  obtain ⟨o0, o1, o2, o3, u0, u1, u2, u3⟩ := hg5.four
  obtain ⟨z0, z1, z2, z3, y0, y1, y2, y3⟩ := hz5.four
  have q0 : w5.cell? ⟨gl, 0, none⟩ = some (.int .i64 (n - 1 - 1)) := by rw [hl5.cell]; rfl
  have hlt5 : gl < w5.heap.size := hl5.lt
  have hl85 : G8 < w5.heap.size := hg5.lt
  obtain ⟨hg6, hz6, hl6, hk6⟩ := g8_set (m := 0) hg5 hz5 hl5 hk5 hn8 hlz2
  have HI0 := Lib.hid (show GI w _ gl l G8 7 0 (n - 1 - 1) 0 from ⟨_, by rw [List.take_zero, wdsL_nil, Int.sub_zero]; exact hl6, hz6, hg6, TRow.none_ _ _ _, hk6⟩)
  have HZ5 := Lib.hid hz5; have HG5 := Lib.hid hg5
  clear hg5 hz5 hl5 hk5 hg6 hz6 hl6 hk6
  obtain ⟨i0, hin, hy0, hy1, hy2⟩ := info_parts infoT
  go_wp2_with fail
  go_step3
  go_wp2_with fail
  go_loopw [62] (fun x wr => ∃ i : Nat, i ≤ m ∧ x = .int .i64 (i : Int) ∧ GI w wr gl l G8 7 0 (n - 1 - 1) i) (fun x _ => m - (intOf x).toNat)
  case atStart => exact ⟨0, Nat.zero_le _, rfl, HI0.out⟩
  case round =>
    obtain ⟨i, hi, rfl, row, hl, hz, hg, hrow, hk⟩ := hrel
    clear HI0
    obtain ⟨ts, hts⟩ : ∃ ts, l.take i = ts := ⟨_, rfl⟩
    rw [hts] at hrow
    have hll : ts.length = i := by have := HLM.out; rw [← hts, List.length_take]; omega
    obtain ⟨A3, c3, rfl, _, _, _⟩ := hrow.form
    have hwi : wdsL (l.take i) ≤ wdsL l := wdsL_take_le l i
    obtain ⟨nl, hnl⟩ : ∃ nl, n - 1 - 1 - wdsL (l.take i) = nl := ⟨_, rfl⟩
    have hnl0 : 0 ≤ nl := by omega
    have hnl1 : nl ≤ 65536 := by have := (wdsL_range (l.take i)).1; omega
    have qq : wr.cell? ⟨gl, 0, none⟩ = some (.int .i64 nl) := by rw [← hnl, hl.cell]; rfl
    have HG := Lib.hid hg; have HZR := Lib.hid hz; have HKR := Lib.hid hk; have HLL := Lib.hid hll; have HLR := Lib.hid hl; have HTS := Lib.hid hts; have HNL := Lib.hid hnl
    have hlr : gl < wr.heap.size := hl.lt
    have hl8r : G8 < wr.heap.size := hg.lt
    by_cases hlt : i < m
    · obtain ⟨u', hu'⟩ : ∃ u', ws[i]? = some u' := ⟨_, List.getElem?_eq_getElem (by have := HM.out; rw [hws] at this; omega)⟩
      obtain ⟨t, ht⟩ : ∃ t, l[i]? = some t := ⟨_, List.getElem?_eq_getElem (by have := HLM.out; omega)⟩
      obtain ⟨ad, uv, rfl, hab, huv, hcell⟩ := (HWS.out wr hk).at_ (k := i) hlt
      obtain rfl : uv = .int .u64 u' := u64_at (by rw [hws]; exact hu') huv
      have hle : wdsL (l.take i) + wds t ≤ wdsL l := by
        have := wdsL_take_le l (i + 1)
        rw [wdsL_take_succ ht] at this
        exact this
      have hEr := HE.out.keep hk.drew
      have HC := Lib.hid (HIH.out i t u' ht (by rw [hws]; exact hu') nl wr.drew F gh g lim gl gp gb hEr (hnl ▸ hl) (by omega) hnl1)
      obtain ⟨G, vs, hV, hG, hRw⟩ := hrow
      have HV := Lib.hid hV; have HGG := Lib.hid hG; have HRw := Lib.hid hRw; have HUT := Lib.hid ht; have HER := Lib.hid hEr
      have hS0 : wr.drew.cell? ⟨G8, 3, none⟩ = some (.slice A3 ts.length c3) ∧ wr.drew.cell? ⟨gb, 0, none⟩ = some (.func (.func 41) #[] #[.pointer (some ⟨gl, 0, none⟩), .pointer (some ⟨gp, 0, none⟩), .pointer (some ⟨gb, 0, none⟩)]) := ⟨hg.cell 3, hEr.bb.cell 0⟩
      have b1 : ts.length + 1 ≤ maxLen := by unfold maxLen; omega
      have b2 : (ts.length + 1) * 56 ≤ 140737488355328 := by omega
      have hi0 : (0 : Int) ≤ (i : Int) := by omega
      have him : (i : Int) < (m : Int) := by omega
      clear hl hz hg hk hu' ht huv hV hG hRw hll hts hnl hle hEr hwi h1' hw0 hws
      go_wp2_with fail
      refine Zed.begin (S := fun wx => wx.cell? ⟨G8, 3, none⟩ = some (.slice A3 ts.length c3) ∧ wx.cell? ⟨gb, 0, none⟩ = some (.func (.func 41) #[] #[.pointer (some ⟨gl, 0, none⟩), .pointer (some ⟨gp, 0, none⟩), .pointer (some ⟨gb, 0, none⟩)])) (z := 8) (by kernel_rfl) hS0 (fun hHeld => ?_)
      refine Zed.take (i := 0) (oi := ⟨some 68, _, _, _, _, _⟩) (v := ?_) rfl (by kernel_rfl) (by kernel_rfl) (by kernel_rfl) (by kernel_rfl) (fun _ _ _ h => h) (Or.inl ⟨by rfl, ?_⟩) (by assumption) ?_
      rotate_left
      · intro wS hSw; obtain ⟨hSa, hSb⟩ := hSw; go_simp; try with_reducible rfl
      try simp only [Act.put, List.setIfInBounds_toArray, List.set_cons_zero, List.set_cons_succ]
      refine Zed.take (i := 1) (oi := ⟨some 69, _, _, _, _, _⟩) (v := ?_) rfl (by kernel_rfl) (by kernel_rfl) (by kernel_rfl) (by kernel_rfl) (fun _ _ _ h => h) (Or.inl ⟨by rfl, ?_⟩) (by assumption) ?_
      rotate_left
      · intro wS hSw; obtain ⟨hSa, hSb⟩ := hSw; go_simp; try with_reducible rfl
      try simp only [Act.put, List.setIfInBounds_toArray, List.set_cons_zero, List.set_cons_succ]
      refine Zed.take (i := 2) (oi := ⟨some 70, _, _, _, _, _⟩) (v := ?_) rfl (by kernel_rfl) (by kernel_rfl) (by kernel_rfl) (by kernel_rfl) (fun _ _ _ h => h) (Or.inl ⟨by rfl, ?_⟩) (by assumption) ?_
      rotate_left
      · intro wS hSw; obtain ⟨hSa, hSb⟩ := hSw; go_simp; try with_reducible rfl
      try simp only [Act.put, List.setIfInBounds_toArray, List.set_cons_zero, List.set_cons_succ]
      refine Zed.take (i := 3) (oi := ⟨some 71, _, _, _, _, _⟩) (v := ?_) rfl (by kernel_rfl) (by kernel_rfl) (by kernel_rfl) (by kernel_rfl) (fun _ _ _ h => h) (Or.inl ⟨by rfl, ?_⟩) (by assumption) ?_
      rotate_left
      · intro wS hSw; obtain ⟨hSa, hSb⟩ := hSw; go_simp; try with_reducible rfl
      try simp only [Act.put, List.setIfInBounds_toArray, List.set_cons_zero, List.set_cons_succ]
      refine Zed.ready (rs := [4]) (by kernel_rfl) (by simp) ?_
      refine Zeach.cons (o := ⟨some 72, _, _, _, _, _⟩) rfl (fun K hK => ?_) Zeach.nil
      go_simp
      go_at_call 41
      refine HC.out.mono ?_
      rintro e w6 hpost
      obtain ⟨k6, m6, s6, A6, l6, c6, rfl, hk6, ht6, hb6⟩ := hpost.form
      have hk6r := (Keep.refl (fun b => b = gl) wr).drew.trans hk6 (fun _ _ h => h)
      have hg6 := HG.out.keep hk6r hn8
      have hf6 := (HER.out.keep hk6).bb
      have hS6 : w6.cell? ⟨G8, 3, none⟩ = some (.slice A3 ts.length c3) := hg6.cell 3
      have hS7 : ∀ o, (w6.alloc o).cell? ⟨G8, 3, none⟩ = some (.slice A3 ts.length c3) := fun o => (hg6.alloc o).cell 3
      have hF6 := hf6.cell 0
      have hF7 := fun o => (hf6.alloc o).cell 0
      have HK6 := Lib.hid hk6r; have HG6 := Lib.hid hg6; have HT6 := Lib.hid ht6; have HB6 := Lib.hid hb6; have HS7 := Lib.hid hS7; have HF6 := Lib.hid hF6; have HF7 := Lib.hid hF7; have HFB := Lib.hid hf6
      clear hpost hk6 hk6r hg6 ht6 hb6 hS7 hF6 hF7 hf6
      go_wp2_with fail
      refine hK.out _ _ ⟨hS6, HF6.out⟩ (fun hHeld => ?_)
      clear hK K
      try simp only [Act.put, List.setIfInBounds_toArray, List.set_cons_zero, List.set_cons_succ]
      refine Zed.ready (rs := [5]) (by kernel_rfl) (by simp) ?_
      refine Zeach.cons (o := ⟨some 73, _, _, _, _, _⟩) rfl (fun K hK => ?_) Zeach.nil
      go_simp
      refine hK.out _ _ ⟨HS7.out _, HF7.out _⟩ (fun hHeld => ?_)
      clear hK K
      try simp only [Act.put, List.setIfInBounds_toArray, List.set_cons_zero, List.set_cons_succ]
      refine Zed.ready (rs := [6]) (by kernel_rfl) (by simp) ?_
      refine Zeach.cons (o := ⟨some 74, _, _, _, _, _⟩) rfl (fun K hK => ?_) Zeach.nil
      have hR7 := (ownsRow_keep HRw.out HK6.out (fun r hr (e : r = gl) => by have := (HRw.out.lt r hr).1; omega)).alloc (.cells #[.int .i64 k6, .int .i64 m6, .string s6, .slice A6 l6 c6] 28)
      have hc4 := cells4_new w6 (.int .i64 k6) (.int .i64 m6) (.string s6) (.slice A6 l6 c6) 28
      have b3 : G8 + 1 ≤ (w6.alloc (.cells #[.int .i64 k6, .int .i64 m6, .string s6, .slice A6 l6 c6] 28)).heap.size := by have := HG6.out.lt; simp; omega
      obtain ⟨v3, w3, run3, hR3, hg3, _, hat3⟩ := run_append_own_at (P := Try.prog) (w6.alloc (.cells #[.int .i64 k6, .int .i64 m6, .string s6, .slice A6 l6 c6] 28)) (G8 + 1) 26 26 28 i0 _ 4 56 Try.underlying26 hin hy0 hy1 hy2 rfl (by decide) (.slice A3 ts.length c3) ts.length _ hR7 ⟨w6.heap.size, 0, none⟩ 1 1 [.int .i64 k6, .int .i64 m6, .string s6, .slice A6 l6 c6] rfl hc4 (one4 _ _ _ _ _ _) b1 b2 b3
      obtain ⟨A5, c5, rfl, _, _⟩ := ownsRow_form hR3
      have hg23 := (HG6.out.alloc (.cells #[.int .i64 k6, .int .i64 m6, .string s6, .slice A6 l6 c6] 28)).grown hg3 (fun e => by have := (HRw.out.lt _ e.symm).1; omega)
      have hfb3 := (HFB.out.alloc (.cells #[.int .i64 k6, .int .i64 m6, .string s6, .slice A6 l6 c6] 28)).grown hg3 (fun e => by have := (HRw.out.lt _ e.symm).1; have := HE.out.bb.lt; omega)
      have hF8 := hfb3.cell 0
      obtain ⟨x0, x1, x2, x3, y0, y1, y2, y3⟩ := hg23.four
      have HKP := Lib.hid (fun v => g_keeps hgl hlz2 HZR.out HG.out HKR.out HK6.out hg3 (fun r hr => HRw.out.lt r hr) v)
      have HR3 := Lib.hid hR3; have HG3 := Lib.hid hg3; have HAT3 := Lib.hid hat3
      clear hR3 hg3 hat3 hg23 hR7 hc4 b3 hfb3
      refine step_append_run (.tmp 69) (.tmp 73) 26 _ _ _ run3 rfl rfl (by simp [Act.eval, Act.put]) (by simp [Act.eval, Act.put]) ?_
      refine hK.out _ _ ⟨x3, hF8⟩ (fun hHeld => ?_)
      clear hK K
      try simp only [Act.put, List.setIfInBounds_toArray, List.set_cons_zero, List.set_cons_succ]
      refine Zed.take (i := 7) (oi := ⟨some 75, _, _, _, _, _⟩) (v := ?_) rfl (by kernel_rfl) (by kernel_rfl) (by kernel_rfl) (by kernel_rfl) (fun _ _ _ h => h) (Or.inl ⟨by rfl, ?_⟩) (by assumption) ?_
      rotate_left
      · intro wS hSw; obtain ⟨hSa, hSb⟩ := hSw; go_simp; try with_reducible rfl
      try simp only [Act.put, List.setIfInBounds_toArray, List.set_cons_zero, List.set_cons_succ]
      refine Zed.ready (rs := [8]) (by kernel_rfl) (by simp) ?_
      refine Zeach.last (o := ⟨none, _, _, _, _, _⟩) rfl (fun K hK => ?_)
      go_simp
      refine hK.out _ _ ?_
      clear hK K
      try simp only [Act.put, List.setIfInBounds_toArray, List.set_cons_zero, List.set_cons_succ]
      refine Zed.done (by kernel_rfl) ?_ _
      have HI := Lib.hid (GI.step (i := i) hgl hlz2 HTS.out.symm HUT.out HZR.out HG.out HKR.out HV.out HGG.out HRw.out HK6.out HT6.out (HNL.out ▸ HB6.out) HG3.out HR3.out HAT3.out)
      obtain ⟨w9, hw9⟩ : ∃ x, w3.setCell ⟨G8, 3, none⟩ (.slice A5 (ts.length + 1) c5) = x := ⟨_, rfl⟩
      rw [hw9] at HI ⊢
      clear hw9 x0 x1 x2 x3 y0 y1 y2 y3 hS6 run3 HKP HR3 HG3 HAT3
      go_wp2_with fail
      exact ⟨⟨i + 1, by omega, by go_num, HI.out⟩, by simp [intOf]; omega⟩
    · obtain rfl : i = m := by omega
      have hfull : l.take i = l := List.take_of_length_le (by have := HLM.out; omega)
      rw [hfull] at hl hts
      subst hts
      have HD := Lib.hid (GI.done (k := 7) (x := 0) (n := n - 1 - 1) (n0 := n) hgl hlz2 (by decide) (by decide) (by have := HWD.out; omega) hl hrow hk)
      obtain ⟨z0, z1, z2, z3, t0, t1, t2, t3⟩ := hz.four
      obtain ⟨o0, o1, o2, o3, _, _, _, _⟩ := hg.four
      clear hl hz hg hrow hk hll hnl hfull
      go_wp2_with fail
      obtain ⟨r0, r1, r2, r3, _, _, _, _⟩ := (put4_blk HZR.out (.int .i64 7) (.int .i64 0) (.string ⟨#[]⟩) (.slice A3 l.length c3)).four
      unfold put4 at r0 r1 r2 r3
      try rw [Exit.noGoto_ret]
      exact bodyPost_ret (v := .agg #[.int .i64 7, .int .i64 0, .string ⟨#[]⟩, .slice A3 l.length c3]) (by simp [results, Try.results41, go_sem, r0, r1, r2, r3]) rfl HD.out
set_option maxRecDepth 100000 in
set_option maxHeartbeats 8000000 in
theorem build_box5 (x : It) (p : Nat) (l : List Tm) (u n : Int) (w : World) (F : Nat → Prop) (gh g : Nat) (L : List ByteArray) (lim : Int) (H : List It) (gl gp gb : Nat) (hE : GE w F gh g L lim H gl gp gb) (hL : Blk w gl 3 #[.int .i64 n]) (hu : U64 u) (hk : unK u = 5) (hn : unN u = (p : Int)) (hy : unE u = 0) (hxk : x.k = 5) (hat : itAt H (p : Int) = some x) (hl : x.ws.length = l.length) (IH : ∀ (i : Nat) (t : Tm) (v : Int), l[i]? = some t → x.ws[i]? = some v → BuildAt L H t v) (h1 : wds (.mk 5 x.n ⟨#[]⟩ l) ≤ n) (h6 : n ≤ 65536) : Calls Try.prog 41 #[.int .u64 u, .pointer (some ⟨gl, 0, none⟩), .pointer (some ⟨gp, 0, none⟩), .pointer (some ⟨gb, 0, none⟩)] w (BP w gl (.mk 5 x.n ⟨#[]⟩ l) n) := by
  have hok := hE.hp.1.wf.ok x (itAt_mem hat)
  have HPT := Lib.hid (fun (w' : World) (h : GE w' F gh g L lim H gl gp gb) => parts_hp h.hp hu (hk.trans hxk.symm) (hn ▸ hat))
  have hlen := hok.len
  have HWD := Lib.hid (show wds (.mk 5 x.n ⟨#[]⟩ l) = 2 + wdsL l from by rw [wds_mk]; unfold ownN hasB; simp)
  have HUR := Lib.hid (un_range hu)
  obtain ⟨g0, g1⟩ := hok.fn hxk
  obtain ⟨xn, hxn⟩ : ∃ xn, x.n = xn := ⟨_, rfl⟩
  have HIT := Lib.hid (show itN x = xn from by unfold itN; rw [if_neg (by omega), if_pos hxk, hxn])
  rw [hxn] at h1 HWD g0 g1 ⊢
  have hwn : (Lit.int .i64 xn).wf = true := WalkArith.wf_i64 (by omega)
  obtain ⟨m, hm⟩ : ∃ m, x.ws.length = m := ⟨_, rfl⟩
  have hlm : l.length = m := by omega
  rw [hm] at hlen
  have h1' : wdsL l + 2 ≤ n := by have := HWD.out; omega
  have hw0 := (wdsL_range l).1
  have HM := Lib.hid hm; have HLM := Lib.hid hlm; have HIH := Lib.hid IH
  obtain ⟨ws, hws⟩ : ∃ ws, x.ws = ws := ⟨_, rfl⟩
  clear hok hat hl IH hm hlm h1 hxk hxn
  have HUN := Lib.hid (fun w => unpack_as hu hk hn hy w)
  have hgl : gl < w.heap.size := hL.lt
  have hz := Blk.new w 28 #[.int .i64 0, .int .i64 0, .string ⟨#[]⟩, .slice none 0 0]
  have hb0 := ballocs (Below.refl w.heap.size w) (.cells #[.int .i64 0, .int .i64 0, .string ⟨#[]⟩, .slice none 0 0] 28)
  have HZ := Lib.hid hz; have HB0 := Lib.hid hb0; have HE := Lib.hid hE; have HL := Lib.hid hL
  clear hz hb0 hL hk hn hy hE
  go_enter Try.func41, Try.ntmps41
  go_wp2_with fail
  obtain ⟨w1, hw1⟩ : ∃ x, w.alloc (.cells #[.int .i64 0, .int .i64 0, .string ⟨#[]⟩, .slice none 0 0] 28) = x := ⟨_, rfl⟩
  rw [hw1] at HZ HB0 ⊢
  clear hw1
  go_step3
  go_wp2_with fail
  refine (HUN.out w1).mono ?_
  rintro e w2 ⟨rfl, hb2⟩
  have hr2 := (HL.out.below HB0.out HL.out.lt).below hb2 (Nat.lt_of_lt_of_le HL.out.lt HB0.out.size)
  have hz2 := HZ.out.below hb2 HZ.out.lt
  have hlt2 : gl < w2.heap.size := Blk.lt hr2
  have hlz2 : w.heap.size < w2.heap.size := hz2.lt
  have q0 : w2.cell? ⟨gl, 0, none⟩ = some (.int .i64 n) := by rw [hr2.cell]; rfl
  have f0 := hr2.frozen 0
  obtain ⟨z0, z1, z2, z3, y0, y1, y2, y3⟩ := hz2.four
  have hb02 := fbelow HB0.out hb2
  have hE2 := HE.out.below hb02
  have p0 : w2.cell? ⟨gp, 0, none⟩ = some (.pointer (some ⟨gh, 0, none⟩)) := by rw [hE2.bp.cell]; rfl
  have hgp2 : gp < w2.heap.size := hE2.bp.lt
  have hnp := HE.out.np
  have HB02 := Lib.hid hb02; have HR2 := Lib.hid hr2; have HZ2 := Lib.hid hz2
  clear hb2 hr2 hz2 hb02 hE2
  go_wp2_with fail
  obtain ⟨hg3, hz3, hl3, hk3⟩ := left_new2 (m := n - 1 - 1) (cs := #[.int .i64 5, .int .i64 (p : Int), .string ⟨#[]⟩, .slice none 0 0]) HB02.out HZ2.out HR2.out hgl
  obtain ⟨w3, hw3⟩ : ∃ x, ((w2.setCell ⟨gl, 0, none⟩ (.int .i64 (n - 1))).setCell ⟨gl, 0, none⟩ (.int .i64 (n - 1 - 1))).alloc (.cells #[.int .i64 5, .int .i64 (p : Int), .string ⟨#[]⟩, .slice none 0 0] 28) = x := ⟨_, rfl⟩
  rw [hw3] at hg3 hz3 hl3 hk3 ⊢
  clear hw3
  obtain ⟨G8, hG8⟩ : ∃ G8, w2.heap.size = G8 := ⟨_, rfl⟩
  rw [hG8] at hg3 hlt2 hlz2 ⊢
  have hn8 : G8 ≠ gl := by omega
  have hn81 : G8 ≠ w.heap.size := by omega
  have hE3 := HE.out.keep hk3
  have HPC := Lib.hid (HPT.out w3 hE3)
  have HG3 := Lib.hid hg3; have HZ3 := Lib.hid hz3; have HL3 := Lib.hid hl3; have HK3 := Lib.hid hk3; have HE3 := Lib.hid hE3
  clear hg3 hz3 hl3 hk3 hE3 q0 f0 z0 z1 z2 z3 y0 y1 y2 y3 p0 hG8 hgp2
  refine HPC.out.mono ?_
  rintro e w5 ⟨r, hFr, A', c', he, hb5, ha5, h05, hc5, hr5⟩
  have hrl : r < w.heap.size := HE.out.hp.lt r hFr
  have hrn : r ≠ gl := fun e => HE.out.nl (e ▸ hFr)
  rw [HIT.out, HM.out] at he
  subst he
  rw [HM.out] at hr5 hc5
  have HWS := Lib.hid (fun wr (hk : Keep (fun b => b = gl) w wr) => hr5 wr (fun j => (hk.cell (p := ⟨r, j, none⟩) hrl hrn).trans (HK3.out.cell (p := ⟨r, j, none⟩) hrl hrn).symm) (Nat.lt_of_lt_of_le hrl hk.size))
  have hg5 := HG3.out.below hb5 HG3.out.lt
  have hz5 := HZ3.out.below hb5 HZ3.out.lt
  have hl5 := HL3.out.below hb5 HL3.out.lt
  have hk5 := HK3.out.trans (Keep.new (F := fun b => b = gl) hb5) (fun _ _ h => h)
  clear hr5 hb5 ha5 h05 HG3 HZ3 HL3 HK3
  obtain ⟨o0, o1, o2, o3, u0, u1, u2, u3⟩ := hg5.four
  obtain ⟨z0, z1, z2, z3, y0, y1, y2, y3⟩ := hz5.four
  have q0 : w5.cell? ⟨gl, 0, none⟩ = some (.int .i64 (n - 1 - 1)) := by rw [hl5.cell]; rfl
  have hlt5 : gl < w5.heap.size := hl5.lt
  have hl85 : G8 < w5.heap.size := hg5.lt
  obtain ⟨hg6, hz6, hl6, hk6⟩ := g8_set (m := 0) hg5 hz5 hl5 hk5 hn8 hlz2
  obtain ⟨hg6, hz6, hl6, hk6⟩ := g8_set (m := xn) hg6 hz6 hl6 hk6 hn8 hlz2
  have HI0 := Lib.hid (show GI w _ gl l G8 5 xn (n - 1 - 1) 0 from ⟨_, by rw [List.take_zero, wdsL_nil, Int.sub_zero]; exact hl6, hz6, hg6, TRow.none_ _ _ _, hk6⟩)
  have HZ5 := Lib.hid hz5; have HG5 := Lib.hid hg5
  clear hg5 hz5 hl5 hk5 hg6 hz6 hl6 hk6
  obtain ⟨i0, hin, hy0, hy1, hy2⟩ := info_parts infoT
  go_wp2_with fail
  go_step3
  go_wp2_with fail
  go_loopw [62] (fun x wr => ∃ i : Nat, i ≤ m ∧ x = .int .i64 (i : Int) ∧ GI w wr gl l G8 5 xn (n - 1 - 1) i) (fun x _ => m - (intOf x).toNat)
  case atStart => exact ⟨0, Nat.zero_le _, rfl, HI0.out⟩
  case round =>
    obtain ⟨i, hi, rfl, row, hl, hz, hg, hrow, hk⟩ := hrel
    clear HI0
    obtain ⟨ts, hts⟩ : ∃ ts, l.take i = ts := ⟨_, rfl⟩
    rw [hts] at hrow
    have hll : ts.length = i := by have := HLM.out; rw [← hts, List.length_take]; omega
    obtain ⟨A3, c3, rfl, _, _, _⟩ := hrow.form
    have hwi : wdsL (l.take i) ≤ wdsL l := wdsL_take_le l i
    obtain ⟨nl, hnl⟩ : ∃ nl, n - 1 - 1 - wdsL (l.take i) = nl := ⟨_, rfl⟩
    have hnl0 : 0 ≤ nl := by omega
    have hnl1 : nl ≤ 65536 := by have := (wdsL_range (l.take i)).1; omega
    have qq : wr.cell? ⟨gl, 0, none⟩ = some (.int .i64 nl) := by rw [← hnl, hl.cell]; rfl
    have HG := Lib.hid hg; have HZR := Lib.hid hz; have HKR := Lib.hid hk; have HLL := Lib.hid hll; have HLR := Lib.hid hl; have HTS := Lib.hid hts; have HNL := Lib.hid hnl
    have hlr : gl < wr.heap.size := hl.lt
    have hl8r : G8 < wr.heap.size := hg.lt
    by_cases hlt : i < m
    · obtain ⟨u', hu'⟩ : ∃ u', ws[i]? = some u' := ⟨_, List.getElem?_eq_getElem (by have := HM.out; rw [hws] at this; omega)⟩
      obtain ⟨t, ht⟩ : ∃ t, l[i]? = some t := ⟨_, List.getElem?_eq_getElem (by have := HLM.out; omega)⟩
      obtain ⟨ad, uv, rfl, hab, huv, hcell⟩ := (HWS.out wr hk).at_ (k := i) hlt
      obtain rfl : uv = .int .u64 u' := u64_at (by rw [hws]; exact hu') huv
      have hle : wdsL (l.take i) + wds t ≤ wdsL l := by
        have := wdsL_take_le l (i + 1)
        rw [wdsL_take_succ ht] at this
        exact this
      have hEr := HE.out.keep hk.drew
      have HC := Lib.hid (HIH.out i t u' ht (by rw [hws]; exact hu') nl wr.drew F gh g lim gl gp gb hEr (hnl ▸ hl) (by omega) hnl1)
      obtain ⟨G, vs, hV, hG, hRw⟩ := hrow
      have HV := Lib.hid hV; have HGG := Lib.hid hG; have HRw := Lib.hid hRw; have HUT := Lib.hid ht; have HER := Lib.hid hEr
      have hS0 : wr.drew.cell? ⟨G8, 3, none⟩ = some (.slice A3 ts.length c3) ∧ wr.drew.cell? ⟨gb, 0, none⟩ = some (.func (.func 41) #[] #[.pointer (some ⟨gl, 0, none⟩), .pointer (some ⟨gp, 0, none⟩), .pointer (some ⟨gb, 0, none⟩)]) := ⟨hg.cell 3, hEr.bb.cell 0⟩
      have b1 : ts.length + 1 ≤ maxLen := by unfold maxLen; omega
      have b2 : (ts.length + 1) * 56 ≤ 140737488355328 := by omega
      have hi0 : (0 : Int) ≤ (i : Int) := by omega
      have him : (i : Int) < (m : Int) := by omega
      clear hl hz hg hk hu' ht huv hV hG hRw hll hts hnl hle hEr hwi h1' hw0 hws
      go_wp2_with fail
      refine Zed.begin (S := fun wx => wx.cell? ⟨G8, 3, none⟩ = some (.slice A3 ts.length c3) ∧ wx.cell? ⟨gb, 0, none⟩ = some (.func (.func 41) #[] #[.pointer (some ⟨gl, 0, none⟩), .pointer (some ⟨gp, 0, none⟩), .pointer (some ⟨gb, 0, none⟩)])) (z := 8) (by kernel_rfl) hS0 (fun hHeld => ?_)
      refine Zed.take (i := 0) (oi := ⟨some 68, _, _, _, _, _⟩) (v := ?_) rfl (by kernel_rfl) (by kernel_rfl) (by kernel_rfl) (by kernel_rfl) (fun _ _ _ h => h) (Or.inl ⟨by rfl, ?_⟩) (by assumption) ?_
      rotate_left
      · intro wS hSw; obtain ⟨hSa, hSb⟩ := hSw; go_simp; try with_reducible rfl
      try simp only [Act.put, List.setIfInBounds_toArray, List.set_cons_zero, List.set_cons_succ]
      refine Zed.take (i := 1) (oi := ⟨some 69, _, _, _, _, _⟩) (v := ?_) rfl (by kernel_rfl) (by kernel_rfl) (by kernel_rfl) (by kernel_rfl) (fun _ _ _ h => h) (Or.inl ⟨by rfl, ?_⟩) (by assumption) ?_
      rotate_left
      · intro wS hSw; obtain ⟨hSa, hSb⟩ := hSw; go_simp; try with_reducible rfl
      try simp only [Act.put, List.setIfInBounds_toArray, List.set_cons_zero, List.set_cons_succ]
      refine Zed.take (i := 2) (oi := ⟨some 70, _, _, _, _, _⟩) (v := ?_) rfl (by kernel_rfl) (by kernel_rfl) (by kernel_rfl) (by kernel_rfl) (fun _ _ _ h => h) (Or.inl ⟨by rfl, ?_⟩) (by assumption) ?_
      rotate_left
      · intro wS hSw; obtain ⟨hSa, hSb⟩ := hSw; go_simp; try with_reducible rfl
      try simp only [Act.put, List.setIfInBounds_toArray, List.set_cons_zero, List.set_cons_succ]
      refine Zed.take (i := 3) (oi := ⟨some 71, _, _, _, _, _⟩) (v := ?_) rfl (by kernel_rfl) (by kernel_rfl) (by kernel_rfl) (by kernel_rfl) (fun _ _ _ h => h) (Or.inl ⟨by rfl, ?_⟩) (by assumption) ?_
      rotate_left
      · intro wS hSw; obtain ⟨hSa, hSb⟩ := hSw; go_simp; try with_reducible rfl
      try simp only [Act.put, List.setIfInBounds_toArray, List.set_cons_zero, List.set_cons_succ]
      refine Zed.ready (rs := [4]) (by kernel_rfl) (by simp) ?_
      refine Zeach.cons (o := ⟨some 72, _, _, _, _, _⟩) rfl (fun K hK => ?_) Zeach.nil
      go_simp
      go_at_call 41
      refine HC.out.mono ?_
      rintro e w6 hpost
      obtain ⟨k6, m6, s6, A6, l6, c6, rfl, hk6, ht6, hb6⟩ := hpost.form
      have hk6r := (Keep.refl (fun b => b = gl) wr).drew.trans hk6 (fun _ _ h => h)
      have hg6 := HG.out.keep hk6r hn8
      have hf6 := (HER.out.keep hk6).bb
      have hS6 : w6.cell? ⟨G8, 3, none⟩ = some (.slice A3 ts.length c3) := hg6.cell 3
      have hS7 : ∀ o, (w6.alloc o).cell? ⟨G8, 3, none⟩ = some (.slice A3 ts.length c3) := fun o => (hg6.alloc o).cell 3
      have hF6 := hf6.cell 0
      have hF7 := fun o => (hf6.alloc o).cell 0
      have HK6 := Lib.hid hk6r; have HG6 := Lib.hid hg6; have HT6 := Lib.hid ht6; have HB6 := Lib.hid hb6; have HS7 := Lib.hid hS7; have HF6 := Lib.hid hF6; have HF7 := Lib.hid hF7; have HFB := Lib.hid hf6
      clear hpost hk6 hk6r hg6 ht6 hb6 hS7 hF6 hF7 hf6
      go_wp2_with fail
      refine hK.out _ _ ⟨hS6, HF6.out⟩ (fun hHeld => ?_)
      clear hK K
      try simp only [Act.put, List.setIfInBounds_toArray, List.set_cons_zero, List.set_cons_succ]
      refine Zed.ready (rs := [5]) (by kernel_rfl) (by simp) ?_
      refine Zeach.cons (o := ⟨some 73, _, _, _, _, _⟩) rfl (fun K hK => ?_) Zeach.nil
      go_simp
      refine hK.out _ _ ⟨HS7.out _, HF7.out _⟩ (fun hHeld => ?_)
      clear hK K
      try simp only [Act.put, List.setIfInBounds_toArray, List.set_cons_zero, List.set_cons_succ]
      refine Zed.ready (rs := [6]) (by kernel_rfl) (by simp) ?_
      refine Zeach.cons (o := ⟨some 74, _, _, _, _, _⟩) rfl (fun K hK => ?_) Zeach.nil
      have hR7 := (ownsRow_keep HRw.out HK6.out (fun r hr (e : r = gl) => by have := (HRw.out.lt r hr).1; omega)).alloc (.cells #[.int .i64 k6, .int .i64 m6, .string s6, .slice A6 l6 c6] 28)
      have hc4 := cells4_new w6 (.int .i64 k6) (.int .i64 m6) (.string s6) (.slice A6 l6 c6) 28
      have b3 : G8 + 1 ≤ (w6.alloc (.cells #[.int .i64 k6, .int .i64 m6, .string s6, .slice A6 l6 c6] 28)).heap.size := by have := HG6.out.lt; simp; omega
      obtain ⟨v3, w3, run3, hR3, hg3, _, hat3⟩ := run_append_own_at (P := Try.prog) (w6.alloc (.cells #[.int .i64 k6, .int .i64 m6, .string s6, .slice A6 l6 c6] 28)) (G8 + 1) 26 26 28 i0 _ 4 56 Try.underlying26 hin hy0 hy1 hy2 rfl (by decide) (.slice A3 ts.length c3) ts.length _ hR7 ⟨w6.heap.size, 0, none⟩ 1 1 [.int .i64 k6, .int .i64 m6, .string s6, .slice A6 l6 c6] rfl hc4 (one4 _ _ _ _ _ _) b1 b2 b3
      obtain ⟨A5, c5, rfl, _, _⟩ := ownsRow_form hR3
      have hg23 := (HG6.out.alloc (.cells #[.int .i64 k6, .int .i64 m6, .string s6, .slice A6 l6 c6] 28)).grown hg3 (fun e => by have := (HRw.out.lt _ e.symm).1; omega)
      have hfb3 := (HFB.out.alloc (.cells #[.int .i64 k6, .int .i64 m6, .string s6, .slice A6 l6 c6] 28)).grown hg3 (fun e => by have := (HRw.out.lt _ e.symm).1; have := HE.out.bb.lt; omega)
      have hF8 := hfb3.cell 0
      obtain ⟨x0, x1, x2, x3, y0, y1, y2, y3⟩ := hg23.four
      have HKP := Lib.hid (fun v => g_keeps hgl hlz2 HZR.out HG.out HKR.out HK6.out hg3 (fun r hr => HRw.out.lt r hr) v)
      have HR3 := Lib.hid hR3; have HG3 := Lib.hid hg3; have HAT3 := Lib.hid hat3
      clear hR3 hg3 hat3 hg23 hR7 hc4 b3 hfb3
      refine step_append_run (.tmp 69) (.tmp 73) 26 _ _ _ run3 rfl rfl (by simp [Act.eval, Act.put]) (by simp [Act.eval, Act.put]) ?_
      refine hK.out _ _ ⟨x3, hF8⟩ (fun hHeld => ?_)
      clear hK K
      try simp only [Act.put, List.setIfInBounds_toArray, List.set_cons_zero, List.set_cons_succ]
      refine Zed.take (i := 7) (oi := ⟨some 75, _, _, _, _, _⟩) (v := ?_) rfl (by kernel_rfl) (by kernel_rfl) (by kernel_rfl) (by kernel_rfl) (fun _ _ _ h => h) (Or.inl ⟨by rfl, ?_⟩) (by assumption) ?_
      rotate_left
      · intro wS hSw; obtain ⟨hSa, hSb⟩ := hSw; go_simp; try with_reducible rfl
      try simp only [Act.put, List.setIfInBounds_toArray, List.set_cons_zero, List.set_cons_succ]
      refine Zed.ready (rs := [8]) (by kernel_rfl) (by simp) ?_
      refine Zeach.last (o := ⟨none, _, _, _, _, _⟩) rfl (fun K hK => ?_)
      go_simp
      refine hK.out _ _ ?_
      clear hK K
      try simp only [Act.put, List.setIfInBounds_toArray, List.set_cons_zero, List.set_cons_succ]
      refine Zed.done (by kernel_rfl) ?_ _
      have HI := Lib.hid (GI.step (i := i) hgl hlz2 HTS.out.symm HUT.out HZR.out HG.out HKR.out HV.out HGG.out HRw.out HK6.out HT6.out (HNL.out ▸ HB6.out) HG3.out HR3.out HAT3.out)
      obtain ⟨w9, hw9⟩ : ∃ x, w3.setCell ⟨G8, 3, none⟩ (.slice A5 (ts.length + 1) c5) = x := ⟨_, rfl⟩
      rw [hw9] at HI ⊢
      clear hw9 x0 x1 x2 x3 y0 y1 y2 y3 hS6 run3 HKP HR3 HG3 HAT3
      go_wp2_with fail
      exact ⟨⟨i + 1, by omega, by go_num, HI.out⟩, by simp [intOf]; omega⟩
    · obtain rfl : i = m := by omega
      have hfull : l.take i = l := List.take_of_length_le (by have := HLM.out; omega)
      rw [hfull] at hl hts
      subst hts
      have HD := Lib.hid (GI.done (k := 5) (x := xn) (n := n - 1 - 1) (n0 := n) hgl hlz2 (by decide) hwn (by have := HWD.out; omega) hl hrow hk)
      obtain ⟨z0, z1, z2, z3, t0, t1, t2, t3⟩ := hz.four
      obtain ⟨o0, o1, o2, o3, _, _, _, _⟩ := hg.four
      clear hl hz hg hrow hk hll hnl hfull
      go_wp2_with fail
      obtain ⟨r0, r1, r2, r3, _, _, _, _⟩ := (put4_blk HZR.out (.int .i64 5) (.int .i64 xn) (.string ⟨#[]⟩) (.slice A3 l.length c3)).four
      unfold put4 at r0 r1 r2 r3
      try rw [Exit.noGoto_ret]
      exact bodyPost_ret (v := .agg #[.int .i64 5, .int .i64 xn, .string ⟨#[]⟩, .slice A3 l.length c3]) (by simp [results, Try.results41, go_sem, r0, r1, r2, r3]) rfl HD.out
end Go.Proofs.Ytnedjmjcbmoknaa.Hp
