/- What is written is read as it was: plain; and tenurelaw07.parts. -/
import Derived.Test.YtfcialleekfjmaaFlKnown
import Derived.Test.YtfcialleekfjmaaFlKit
import Derived.Test.YtfcialleekfjmaaSame
namespace Go.Proofs.Ytfcialleekfjmaa.Fl
open Go.RowKit K At Wd
set_option linter.unusedVariables false
set_option linter.unusedSimpArgs false

theorem pack_U (k n : Int) : U64 (packW k n) := packW_range k n
theorem hd_U (k n : Int) (m : Nat) : ∀ x ∈ hd k n m, U64 x := by
  intro x hx
  unfold hd at hx
  split at hx
  · simp at hx; subst hx; exact pack_U _ _
  · split at hx
    · simp at hx; subst hx; exact pack_U _ _
    · simp at hx
theorem lay_U (f : ByteArray → Int) : ∀ t p, ∀ x ∈ lay f t p, U64 x := by
  refine Tm.ind fun t ih p x hx => ?_
  obtain ⟨k, n, s, l⟩ := t
  simp only [Tm.l_mk] at ih
  rw [lay_mk] at hx
  split at hx
  · have hl : ∀ (l : List Tm) (q : Nat), (∀ u ∈ l, ∀ p, ∀ x ∈ lay f u p, U64 x) → (∀ x ∈ (layP f l q).1, U64 x) ∧ ∀ x ∈ (layP f l q).2, U64 x := fun l => by
      induction l with
      | nil => intro q _; rw [layP_nil]; simp
      | cons u r ihr =>
        intro q h
        have h2 := ihr (q + (lay f u q).length) (fun v hv => h v (List.mem_cons_of_mem _ hv))
        rw [layP_cons]
        refine ⟨fun y hy => ?_, fun y hy => ?_⟩
        · rcases List.mem_cons.1 hy with rfl | hy
          · exact ownW_range f u q
          · exact h2.1 y hy
        · rcases List.mem_append.1 hy with hy | hy
          · exact h u (List.mem_cons_self ..) _ y hy
          · exact h2.2 y hy
    have h2 := hl l (p + (hd k n l.length).length + l.length) ih
    rcases List.mem_append.1 hx with hx | hx
    · exact hd_U _ _ _ x hx
    · rcases List.mem_append.1 hx with hx | hx
      · exact h2.1 x hx
      · exact h2.2 x hx
  · simp at hx
theorem flat_U (f : ByteArray → Int) (t : Tm) : ∀ x ∈ Fl.flat f t, U64 x := by
  intro x hx
  unfold Fl.flat at hx
  rcases List.mem_cons.1 hx with rfl | hx
  · exact ownW_range f t 1
  · exact lay_U f t 1 x hx
theorem wdsL_mem {l : List Tm} {u : Tm} (h : u ∈ l) : wds u ≤ wdsL l := by
  induction l with
  | nil => simp at h
  | cons a r ih =>
    rw [wdsL_cons]
    rcases List.mem_cons.1 h with rfl | h
    · have := (wdsL_range r).1; omega
    · have := (wds_range a).1; have := ih h; omega
theorem chk_part {t u : Tm} (h : chk t = 0) (hk : t.k = 7) (hu : u ∈ t.l) : chk u = 0 := by
  obtain ⟨h1, h2⟩ := chk_snd h
  rw [sndL_subs, Bool.and_eq_true] at h1
  have h3 := sndL_mem h1.2 hu
  have h4 := wdsL_mem hu
  rw [wds_eq, show hasB t = true from by unfold hasB; simp [hk], if_pos rfl] at h2
  have h5 := (ownN_range t).1
  rw [chk_eq, if_pos h3, if_neg (by omega)]
section
variable {L : List ByteArray} {t u : Tm}
theorem flE_there (hL : ∀ s ∈ L, s.size ≤ 64) (h : chk t = 0) (ha : ∀ s ∈ atoms t, s ∈ L) : flE L t = 0 ∧ flL L t = L ∧ flW L t = Fl.flat (ix L) t := by
  have hn := nums_there t L ha hL
  have hE : flE L t = 0 := by unfold flE; rw [if_pos h, hn]; rfl
  exact ⟨hE, by unfold flL; rw [if_pos h, hn], by unfold flW; rw [if_pos hE, hn]⟩
theorem rd_flat (hL4 : L.length ≤ 4096) (h : chk t = 0) (ha : ∀ s ∈ atoms t, s ∈ L) : rdF L (Fl.flat (ix L) t) = some t ∧ rdE L (Fl.flat (ix L) t) = 0 ∧ (Fl.flat (ix L) t).length ≤ 65536 := by
  obtain ⟨h1, h2⟩ := flat_rd hL4 h ha
  exact ⟨h1, by unfold rdE; rw [if_neg (by omega), h1]; rfl, h2⟩
theorem part_flat (hL4 : L.length ≤ 4096) (hL : ∀ s ∈ L, s.size ≤ 64) (h : chk t = 0) (ha : ∀ s ∈ atoms t, s ∈ L) (hk : t.k = 7) {i : Nat} (hu : t.l[i]? = some u) :
    chk u = 0 ∧ (∀ s ∈ atoms u, s ∈ L) ∧ partE L (Fl.flat (ix L) t) ((i : Int) + 1) = 0 ∧ partW L (Fl.flat (ix L) t) ((i : Int) + 1) = Fl.flat (ix L) u := by
  have hm := List.mem_of_getElem? hu
  have hc := chk_part h hk hm
  have hau : ∀ s ∈ atoms u, s ∈ L := fun s hs => ha s (atoms_part hk hm hs)
  obtain ⟨r1, r2, _⟩ := rd_flat hL4 h ha
  obtain ⟨e1, e2, e3⟩ := flE_there hL hc hau
  have ho : partO L (Fl.flat (ix L) t) ((i : Int) + 1) = some u := by
    unfold partO
    rw [r1]
    simp only
    rw [if_pos ⟨hk, by omega⟩, show ((i : Int) + 1 - 1).toNat = i from by omega]
    exact hu
  exact ⟨hc, hau, by unfold partE; rw [if_pos r2, ho]; exact e1, by unfold partW; rw [if_pos r2, ho]; exact e3⟩
end
theorem KE.facts {w wr : World} {g : Nat} {F : Nat → Prop} {L : List ByteArray} (h : KE w wr g F L) : L.Nodup ∧ (∀ s ∈ L, s.size ≤ 64) ∧ L.length ≤ 4096 := by
  obtain ⟨bm, v, D, _, _, _, _, _, _, _, _, hnd, hsz, hl4, _⟩ := h.tab
  exact ⟨hnd, hsz, hl4⟩
set_option maxRecDepth 100000 in
set_option maxHeartbeats 16000000 in
theorem parts_any {w0 w : World} {g : Nat} {F R : Nat → Prop} {L : List ByteArray} (hKE : KE w0 w g F L) (t : Tm) (vt : Value) (ht : TAt w R t vt) (hR : ∀ b, R b → b < w.heap.size ∧ ¬ F b) (hc0 : chk t = 0) (ha : ∀ s ∈ atoms t, s ∈ L) (Ar : Option Addr) (cr : Nat) (hrow : RO w F Ar (Fl.flat (ix L) t).length (u64s (Fl.flat (ix L) t))) (hcr : (Fl.flat (ix L) t).length ≤ cr) (hAr : Ar = none → cr = 0) :
    Calls Try.prog 32 #[.pointer (some ⟨g, 0, none⟩), vt, .slice Ar (Fl.flat (ix L) t).length cr] w fun e w' => e = .returned (.bool true) ∧ ∃ F', KE w0 w' g F' L ∧ Keep F w w' ∧ ∀ k, F' k → F k ∨ w.heap.size ≤ k := by
  obtain ⟨A, c, rfl, ok, hts⟩ := ht.inv
  have hnd := chk_nodes hc0
  have hlen : t.l.length ≤ 65536 := by have h1 := nodes_eq t; have h2 := nodesL_len t.l; omega
  have hB := Blk.new w 24 #[.int .i64 t.k, .int .i64 t.n, .string t.s, .slice A t.l.length c]
  have hb0 := ballocs (Below.refl w.heap.size w) (.cells #[.int .i64 t.k, .int .i64 t.n, .string t.s, .slice A t.l.length c] 24)
  obtain ⟨w1, hw1⟩ : ∃ x, w.alloc (.cells #[.int .i64 t.k, .int .i64 t.n, .string t.s, .slice A t.l.length c] 24) = x := ⟨_, rfl⟩
  rw [hw1] at hB hb0
  have HW1 := Lib.hid hw1
  have HE1 := Lib.hid (hKE.below hb0)
  have HRO1 := Lib.hid (hrow.below hb0)
  have HTS := Lib.hid (hts.under hb0 (fun b hb => (hR b hb).1))
  have HR := Lib.hid hR; have HB0 := Lib.hid hb0; have HBX := Lib.hid hB
  have HFL := Lib.hid (Tab.lt_ hKE.tab)
  have HC := Lib.hid hc0; have HA := Lib.hid ha; have HCR := Lib.hid hcr; have HAR := Lib.hid hAr
  have HFA := Lib.hid hKE.facts
  obtain ⟨LL, hLL⟩ : ∃ LL, Fl.flat (ix L) t = LL := ⟨_, rfl⟩
  have HLL := Lib.hid hLL
  have HZ1 := Lib.hid hB.lt
  rw [hLL] at HRO1 HCR ⊢
  obtain ⟨NL, hNL⟩ : ∃ NL, LL.length = NL := ⟨_, rfl⟩
  have HNL := Lib.hid hNL
  rw [hNL] at HRO1 HCR ⊢
  have HU := Lib.hid (show ∀ x ∈ LL, U64 x from by rw [← hLL]; exact flat_U _ _)
  unfold tv
  clear ht hts ok hR hb0 hB hw1 hKE hrow hc0 ha hcr hAr hLL hNL hnd
  go_enter Try.func32, Try.ntmps32
  go_wp2_with fail
  rw [HW1.out]
  have HI0 := Lib.hid (show ∃ F', KE w0 w1 g F' L ∧ Keep F w1 w1 ∧ ∀ k, F' k → F k ∨ w1.heap.size ≤ k from ⟨F, HE1.out, Keep.refl _ _, fun k h => .inl h⟩)
  go_loopw [7] (fun x wr => ∃ i : Nat, i ≤ t.l.length ∧ x = .int .i64 (i : Int) ∧ ∃ F', KE w0 wr g F' L ∧ Keep F w1 wr ∧ ∀ k, F' k → F k ∨ w1.heap.size ≤ k) (fun x _ => t.l.length - (intOf x).toNat)
  case atStart => exact ⟨0, Nat.zero_le _, rfl, HI0.out⟩
  case round =>
    obtain ⟨i, hi, rfl, F', hke, hkr, hsr⟩ := hrel
    clear HI0
    have HKE := Lib.hid hke; have HKR := Lib.hid hkr; have HSR := Lib.hid hsr
    have hnF : ∀ b, b < w1.heap.size → ¬ F b → ¬ F' b := fun b h1 h2 h3 => by rcases hsr b h3 with h | h; exact h2 h; omega
    have HNF := Lib.hid hnF
    have hBr := HBX.out.keep hkr (fun hf => by have := HFL.out _ hf; omega)
    obtain ⟨p0, p1, p2, p3, _, _, _, _⟩ := hBr.four
    have HBR := Lib.hid hBr
    have hi0 : (0 : Int) ≤ (i : Int) := by omega
    have HEND := Lib.hid (show ∃ F', KE w0 wr g F' L ∧ Keep F w wr ∧ ∀ k, F' k → F k ∨ w.heap.size ≤ k from ⟨F', hke, (Keep.new (F := F) HB0.out).trans hkr (fun _ _ h => h), fun k hk => (hsr k hk).imp id (fun h => Nat.le_trans HB0.out.size h)⟩)
    by_cases hlt : i < t.l.length
    · by_cases hk7 : t.k = 7
      · have b7 : (t.k == 7) = true := by simp [hk7]
        obtain ⟨u, hu⟩ : ∃ u, t.l[i]? = some u := ⟨_, List.getElem?_eq_getElem hlt⟩
        have htr := HTS.out.keepF hkr (fun b hb => by have := (HR.out b hb).1; have := HB0.out.size; omega) (fun b hb => (HR.out b hb).2)
        obtain ⟨bb, o, A1, c1, rfl, hb1, d0, d1, d2, d3, ok1, hta⟩ := htr.at_ hu
        have hpf := part_flat HFA.out.2.2 HFA.out.2.1 HC.out HA.out hk7 hu
        rw [HLL.out] at hpf
        have HPF := Lib.hid hpf
        have hil : (i : Int) < (t.l.length : Int) := by omega
        have hROr : RO wr F' Ar NL (u64s LL) := HRO1.out.step hkr hsr
        have HPA := Lib.hid (part_any g Ar LL cr F' L HU.out (by rw [HNL.out]; exact HCR.out) HAR.out HFA.out.2.1 ((i : Int) + 1) (WalkArith.wf_i64 (by omega)) wr hke.tab (by rw [HNL.out]; exact hROr.reads))
        rw [HNL.out] at HPA
        have HUTA := Lib.hid (show TAt wr R u _ from TAt.of ok1 hta)
        have HRr := Lib.hid (show ∀ b, R b → b < wr.heap.size ∧ ¬ F' b from fun b hb => by
          have h1 := HR.out b hb; have h2 := HB0.out.size; have h3 := hkr.size
          exact ⟨by omega, hnF b (by omega) h1.2⟩)
        have HUN := Lib.hid (chk_nodes hpf.1)
        have hbb : bb < wr.heap.size := World.block_lt_of_cell? wr _ d0
        have HD := Lib.hid (And.intro d0 (And.intro d1 (And.intro d2 d3))); have HB1 := Lib.hid hb1
        unfold tv at HUTA
        clear hke hkr hsr hnF hBr htr hta ok1 hu hpf hROr hk7
        go_wp2_with fail
        refine HPA.out.mono ?_
        intro e w2 hp
        obtain ⟨F2, A2, c2, rfl, hE2, hk2, hF2, hR2, hl2, hA2, hO2⟩ := PartPost.open_ HKE.out hp
        rw [HPF.out.2.2.1]
        rw [HPF.out.2.2.2] at hR2 hl2 ⊢
        have HE2 := Lib.hid hE2; have HK2 := Lib.hid hk2; have HF2 := Lib.hid hF2
        have HUT2 := Lib.hid (HUTA.out.keepF hk2 (fun b hb => (HRr.out b hb).1) (fun b hb => (HRr.out b hb).2))
        have HBR2 := Lib.hid (HBR.out.keep hk2 (HNF.out _ HZ1.out (fun hf => by have := HFL.out _ hf; omega)))
        have HZ2 := Lib.hid hk2.size
        obtain ⟨Lu, hLu⟩ : ∃ Lu, Fl.flat (ix L) u = Lu := ⟨_, rfl⟩
        have HLU := Lib.hid hLu
        have hrf := rd_flat HFA.out.2.2 HPF.out.1 HPF.out.2.1
        rw [hLu] at hR2 hl2 hrf ⊢
        have HRF := Lib.hid hrf
        have HRD := Lib.hid (read_any g A2 Lu c2 F2 L (by rw [← hLu]; exact flat_U _ _) hl2 hA2 HFA.out.2.1 w2 hE2.tab hR2.reads)
        clear hp hE2 hk2 hF2 hR2 hl2 hA2 hO2 hLu hrf p0 p1 p2 p3 d0 d1 d2 d3
        obtain ⟨Nu, hNu⟩ : ∃ Nu, Lu.length = Nu := ⟨_, rfl⟩
        rw [hNu] at HRD ⊢
        clear hNu
        go_wp2_with fail
        rename_i K1 hK1 K2 hK2
        have HKK := Lib.hid hK1
        clear hK1
        refine HRD.out.mono ?_
        rintro e w3 ⟨hb3, (⟨t3, v3, hF3, _, _, rfl, ht3⟩ | ⟨hE3, _⟩)⟩
        rotate_left
        · have := HRF.out.2.1; omega
        obtain rfl : u = t3 := by rw [HRF.out.1] at hF3; injection hF3
        obtain ⟨A3, c3, rfl, _, _⟩ := ht3.inv
        unfold tv at ht3 ⊢
        have HT3 := Lib.hid ht3; have HB3 := Lib.hid hb3
        clear ht3 hb3 hF3
        go_wp2_with fail
        refine HKK.out _ _ ?_
        have hx4 := Blk.new w3 24 #[.int .i64 u.k, .int .i64 u.n, .string u.s, .slice A3 u.l.length c3]
        have hb4 := ballocs (Below.refl w3.heap.size w3) (.cells #[.int .i64 u.k, .int .i64 u.n, .string u.s, .slice A3 u.l.length c3] 24)
        obtain ⟨w4, hw4⟩ : ∃ x, w3.alloc (.cells #[.int .i64 u.k, .int .i64 u.n, .string u.s, .slice A3 u.l.length c3] 24) = x := ⟨_, rfl⟩
        rw [hw4] at hx4 hb4 ⊢
        obtain ⟨g8, hg8⟩ : ∃ g8, w3.heap.size = g8 := ⟨_, rfl⟩
        rw [hg8] at hx4 ⊢
        have hb24 := fbelow HB3.out hb4
        obtain ⟨x0, x1, x2, x3, _, _, _, _⟩ := hx4.four
        obtain ⟨p0, p1, p2, p3, _, _, _, _⟩ := (HBR2.out.below hb24 HBR2.out.lt).four
        have hUT4 := HUT2.out.under hb24 (fun b hb => by have := (HRr.out b hb).1; have := HZ2.out; omega)
        have hk14 : ∀ q, q.block = bb → w4.cell? q = wr.cell? q := fun q hq => by
          exact (hb24.cell (p := q) (by rw [hq]; have := HZ2.out; omega)).trans (HK2.out.cell (by rw [hq]; omega) (by rw [hq]; exact (HRr.out bb HB1.out).2))
        obtain ⟨e0, e1, e2, e3⟩ := HD.out
        have f0 := (hk14 _ rfl).trans e0; have f1 := (hk14 _ rfl).trans e1; have f2 := (hk14 _ rfl).trans e2; have f3 := (hk14 _ rfl).trans e3
        have HE4 := Lib.hid (HE2.out.below hb24)
        have HT4 := Lib.hid (show TA w4 u _ from (HT3.out.under hb4 (fun b hb => hb.2)).mono (fun b hb => Nat.lt_of_lt_of_le hb.2 hb4.size))
        have HUT4 := Lib.hid (show TA w4 u _ from hUT4.mono (fun b hb => by have := (HRr.out b hb).1; have := HZ2.out; have := hb24.size; omega))
        have HB24 := Lib.hid hb24
        have HBR4 := Lib.hid (HBR2.out.below hb24 HBR2.out.lt)
        clear hw4 hx4 hb4 hg8 hb24 hUT4 hk14 e0 e1 e2 e3
        have HTQ := Lib.hid (show TA w4.drew u _ from HT4.out.keep (w' := w4.drew) (fun _ _ => rfl))
        have HUTQ := Lib.hid (show TA w4.drew u _ from HUT4.out.keep (w' := w4.drew) (fun _ _ => rfl))
        go_wp2_with fail
        go_region_with (go_at_call 30; refine (same_any u u _ _ _ HTQ.out HUTQ.out (by have := HUN.out; omega)).mono ?_; rintro e w5 ⟨he, hb5⟩; rw [eqT_self] at he; subst he; have HB5 := Lib.hid (bundrew hb5); clear hb5)
        all_goals
          go_wp2_with fail
          refine ⟨⟨i + 1, by omega, by go_num, F2, HE4.out.below HB5.out, ?_, ?_⟩, by simp [intOf]; omega⟩
          · exact (HKR.out.trans HK2.out (fun j hj hf => by
              rcases HSR.out j hf with h | h
              · exact h
              · omega)).trans (Keep.new (F := F) (fbelow HB24.out HB5.out)) (fun _ _ h => h)
          · intro k hk
            rcases HF2.out k hk with h | h
            · exact HSR.out k h
            · exact .inr (Nat.le_trans HKR.out.size h)
      · have b7 : (t.k == 7) = false := by simpa using hk7
        clear hke hkr hsr hnF hBr
        go_wp2_with fail
        go_ret
        exact ⟨ret1_b rfl, HEND.out⟩
    · obtain rfl : i = t.l.length := by omega
      clear hke hkr hsr hnF hBr
      go_wp2_with fail
      go_ret
      exact ⟨ret1_b rfl, HEND.out⟩
end Go.Proofs.Ytfcialleekfjmaa.Fl
