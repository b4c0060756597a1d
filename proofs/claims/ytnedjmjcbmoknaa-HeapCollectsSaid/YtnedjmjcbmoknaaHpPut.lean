/- Put, by its contract. -/
import Derived.Test.YtnedjmjcbmoknaaHp
import Derived.Test.YtnedjmjcbmoknaaSteps
namespace Go.Proofs.Ytnedjmjcbmoknaa.Hp
open Go.RowKit K At Wd Fl
set_option linter.unusedVariables false
set_option linter.unusedSimpArgs false

/-! ### Plain: what Put leaves -/
def putOk (L : List ByteArray) (lim : Int) (H : List It) (t : Tm) : Prop := flE L t = 0 ∧ ((hW H).length : Int) + ((lay (ix (flL L t)) t 1).length : Int) ≤ lim
instance (L : List ByteArray) (lim : Int) (H : List It) (t : Tm) : Decidable (putOk L lim H t) := by unfold putOk; infer_instance
def putH (L : List ByteArray) (lim : Int) (H : List It) (t : Tm) : List It := if putOk L lim H t then H ++ its (ix (flL L t)) t (hW H).length else H
def putE (L : List ByteArray) (lim : Int) (H : List It) (t : Tm) : Int := if flE L t = 0 then (if ((hW H).length : Int) + ((lay (ix (flL L t)) t 1).length : Int) ≤ lim then 0 else 11) else flE L t
def putW (L : List ByteArray) (lim : Int) (H : List It) (t : Tm) : Int := if putOk L lim H t then ownW (ix (flL L t)) t (hW H).length else 0
theorem flE_ok {L : List ByteArray} {t : Tm} (h : flE L t = 0) : chk t = 0 ∧ (nums t L).1 = true ∧ flL L t = (nums t L).2 := by
  unfold flE at h
  unfold flL
  split at h
  · rename_i hc
    split at h
    · rename_i hn; exact ⟨hc, hn, by rw [if_pos hc]⟩
    · cases h
  · rename_i hc; exact absurd h hc
theorem flL_ext (L : List ByteArray) (t : Tm) : ∃ x, flL L t = L ++ x := by
  unfold flL
  split
  · exact nums_ext t L
  · exact ⟨[], by simp⟩
theorem chk_snd {t : Tm} (h : chk t = 0) : sndL (subs t) = true ∧ wds t ≤ 65536 := by
  rw [chk_eq] at h
  split at h
  · rename_i h1
    split at h
    · cases h
    · exact ⟨h1, by omega⟩
  · cases h
theorem wf_more {H : List It} {a a' : Nat} (h : Wf H a) (ha : a ≤ a') : Wf H a' := by
  have := h.app (G := []) ha (fun x hx => by cases hx)
  rwa [List.append_nil] at this
theorem rng_ix {L : List ByteArray} (hL : L.length ≤ 4096) {t : Tm} (ha : ∀ s ∈ atoms t, s ∈ L) : Rng (ix L) t := fun s hs => by
  have := idx_lt (ha s hs)
  unfold ix
  omega
theorem lay_len_eq (f f' : ByteArray → Int) (t : Tm) (p q : Nat) : (lay f t p).length = (lay f' t q).length := by
  have := lay_len f t p
  have := lay_len f' t q
  omega
theorem put_hb {L : List ByteArray} {lim : Int} {H : List It} {t : Tm} (h : HB L lim H) (h4 : (flL L t).length ≤ 4096) : HB (flL L t) lim (putH L lim H t) := by
  obtain ⟨x, hx⟩ := flL_ext L t
  have hle : L.length ≤ (flL L t).length := by rw [hx]; simp
  unfold putH
  split
  · rename_i hok
    obtain ⟨h1, h2⟩ := hok
    obtain ⟨hc, hn, hl⟩ := flE_ok h1
    have ha := nums_in t L hn
    rw [← hl] at ha
    obtain ⟨hs, _⟩ := chk_snd hc
    have hlen : ((lay (ix (flL L t)) t (hW H).length).length : Int) = ((lay (ix (flL L t)) t 1).length : Int) := by rw [lay_len_eq (ix (flL L t)) (ix (flL L t)) t (hW H).length 1]
    have hlim := h.lim1
    have hp := h.wf.pos
    obtain ⟨r1, r2⟩ := its_rep (H := H ++ its (ix (flL L t)) t (hW H).length) (L := flL L t) h4 t hs ha (hW H).length (by omega) (Holds.self hp)
    refine ⟨h.wf.app hle (fun x hx => ⟨its_ok _ t hs _ x hx, fun u hu => ?_⟩), h.lim0, h.lim1, ?_, h4⟩
    · obtain ⟨t', ht'⟩ := r2 x hx u hu
      exact ⟨ht'.u64.1, ht'.may⟩
    · rw [hW_append, its_hW, List.length_append]
      omega
  · exact ⟨wf_more h.wf hle, h.lim0, h.lim1, h.hl, h4⟩
/-- The first i words moved. -/
def mrow (d : Int) (fl : List Int) (i : Nat) : List Int := (fl.take i).map (reb d) ++ fl.drop i
theorem mrow_zero (d : Int) (fl : List Int) : mrow d fl 0 = fl := by simp [mrow]
theorem mrow_end (d : Int) (fl : List Int) : mrow d fl fl.length = fl.map (reb d) := by simp [mrow]
theorem mrow_len (d : Int) (fl : List Int) (i : Nat) : (mrow d fl i).length = fl.length := by
  unfold mrow
  rw [List.length_append, List.length_map, ← List.length_append, List.take_append_drop]
theorem mrow_get {d : Int} {fl : List Int} {i : Nat} {u : Int} (h : fl[i]? = some u) : (mrow d fl i)[i]? = some u := by
  have hi := (List.getElem?_eq_some_iff.1 h).1
  unfold mrow
  rw [List.getElem?_append_right (by simp; omega)]
  simp only [List.length_map, List.length_take]
  rw [Nat.min_eq_left (by omega), Nat.sub_self, List.getElem?_drop, Nat.add_zero]
  exact h
theorem mrow_succ {d : Int} {fl : List Int} {i : Nat} {u : Int} (h : fl[i]? = some u) : mrow d fl (i + 1) = (mrow d fl i).set i (reb d u) := by
  have hi := (List.getElem?_eq_some_iff.1 h).1
  have hu : fl[i] = u := by have := List.getElem?_eq_getElem hi; rw [this] at h; injection h
  unfold mrow
  have hl : ((fl.take i).map (reb d)).length = i := by simp; omega
  rw [take_snoc_int h, List.map_append, List.set_append_right _ _ (by omega), hl, Nat.sub_self]
  have : fl.drop i = u :: fl.drop (i + 1) := by rw [← hu]; exact List.drop_eq_getElem_cons hi
  rw [this, List.append_assoc]
  rfl
theorem ups_succ {d : Int} {fl : List Int} {i : Nat} {u : Int} (m : Int → Int) (h : fl[i]? = some u) : ups m ((fl.take (i + 1)).map (reb d)) = upW (ups m ((fl.take i).map (reb d))) (reb d u) := by
  rw [take_snoc_int h, List.map_append, List.map_cons, List.map_nil, ups_snoc]
theorem cnt_succ {fl : List Int} {i : Nat} {u : Int} (h : fl[i]? = some u) : (fl.take (i + 1)).countP boxd = (fl.take i).countP boxd + (if boxd u = true then 1 else 0) := by
  rw [take_snoc_int h, List.countP_append, List.countP_singleton]
theorem reb_box {f : ByteArray → Int} {t : Tm} {p : Nat} (hs : sndL (subs t) = true) (hf : Rng f t) (hp : p + (lay f t 1).length ≤ 1073741824) (h9 : 1 + (lay f t 1).length ≤ 1073741824) {u : Int} (hu : u ∈ ownW f t 1 :: lay f t 1) (hb : boxd u = true) :
    reb ((p : Int) - 1) u = packW (unK u) (unN u + ((p : Int) - 1)) ∧ boxd (reb ((p : Int) - 1) u) = true ∧ unK (reb ((p : Int) - 1) u) = unK u ∧ unN (reb ((p : Int) - 1) u) = unN u + ((p : Int) - 1) := by
  have h1 : reb ((p : Int) - 1) u = packW (unK u) (unN u + ((p : Int) - 1)) := by unfold reb; rw [if_pos hb]
  obtain ⟨x, hx, hk⟩ := (ref_lay t hs hf 1 h9 (unN u) (unK u)).1 ⟨u, hu, hb, rfl, rfl⟩
  have hok := its_ok f t hs 1 x (itAt_mem hx)
  obtain ⟨g1, g2, _⟩ := itAt_seg hx
  have g3 := hok.pos
  rw [its_hW] at g2
  have hbk := hok.box
  rw [hk] at hbk
  have hbk2 := hbk
  unfold boxK at hbk2
  obtain ⟨q1, q2⟩ := high_num (k := unK u) (by omega)
  obtain ⟨e1, e2, e3⟩ := pack_facts (k := unK u) (n := unN u + ((p : Int) - 1)) (by omega) ⟨by rw [q1]; omega, by rw [q2]; omega, fun e => by omega⟩
  rw [h1]
  exact ⟨rfl, (boxd_K e1).2 (by rw [e2]; exact hbk), e2, e3⟩
theorem hd_u64 {k n : Int} {m : Nat} : ∀ w ∈ hd k n m, U64 w := by
  intro w hw
  unfold hd at hw
  split at hw
  · simp at hw; subst hw; exact packW_range _ _
  · split at hw
    · simp at hw; subst hw; exact packW_range _ _
    · cases hw
theorem lay_u64 {f : ByteArray → Int} : ∀ t p, ∀ u ∈ lay f t p, U64 u := by
  refine Tm.ind fun t ih p => ?_
  obtain ⟨k, n, s, l⟩ := t
  simp only [Tm.l_mk] at ih
  have hl : ∀ (r : List Tm), (∀ u ∈ r, u ∈ l) → ∀ p, (∀ u ∈ (layP f r p).1, U64 u) ∧ (∀ u ∈ (layP f r p).2, U64 u) := fun r => by
    induction r with
    | nil => intro _ p; rw [layP_nil]; exact ⟨(fun u hu => by cases hu), (fun u hu => by cases hu)⟩
    | cons v r ihr =>
      intro hm p
      obtain ⟨h1, h2⟩ := ihr (fun v hv => hm v (by simp [hv])) (p + (lay f v p).length)
      rw [layP_cons]
      refine ⟨fun u hu => ?_, fun u hu => ?_⟩
      · rcases List.mem_cons.1 hu with rfl | h
        · exact packW_range _ _
        · exact h1 u h
      · rcases List.mem_append.1 hu with h | h
        · exact ih v (hm v (by simp)) p u h
        · exact h2 u h
  rw [lay_mk]
  split
  · intro u hu
    obtain ⟨h1, h2⟩ := hl l (fun u hu => hu) (p + (hd k n l.length).length + l.length)
    rcases List.mem_append.1 hu with h | h
    · exact hd_u64 u h
    · rcases List.mem_append.1 h with h | h
      · exact h1 u h
      · exact h2 u h
  · intro u hu; cases hu
theorem flat_u64 {f : ByteArray → Int} {t : Tm} (h : sndL (subs t) = true) {p : Nat} : ∀ u ∈ ownW f t p :: lay f t p, U64 u := fun u hu => by
  rcases List.mem_cons.1 hu with rfl | h
  · exact packW_range _ _
  · exact lay_u64 t p u h
/-- How many of them name places. -/
theorem cnt_flat {f : ByteArray → Int} {t : Tm} (h : soundB t = true) (hf : Rng f t) : (ownW f t 1 :: lay f t 1).countP boxd ≤ 2 * (lay f t 1).length := by
  have h1 := List.countP_le_length (p := boxd) (l := lay f t 1)
  rw [List.countP_cons]
  obtain ⟨k, n, s, l⟩ := t
  obtain ⟨e1, e2, e3⟩ := own_facts (f := f) (p := 1) h hf.own (by omega)
  by_cases hb : boxK k
  · have hok := its_hW f (.mk k n s l) 1
    have : 0 < (lay f (.mk k n s l) 1).length := by
      have h2 := snd_box h hb
      have h3 := hd_len k n l.length
      have h4 := layP_len1 f l (1 + (hd k n l.length).length + l.length)
      rw [lay_mk, if_pos hb]
      simp only [List.length_append, h4]
      unfold boxK at hb
      rcases hb with e | e | e
      · rw [if_pos (.inl e)] at h3; omega
      · rw [if_pos (.inr e)] at h3; omega
      · have := (h2.2.2.1 e).2; omega
    split <;> omega
  · have : boxd (ownW f (.mk k n s l) 1) = false := by
      cases hx : boxd (ownW f (.mk k n s l) 1) with
      | false => rfl
      | true => exact absurd ((boxd_K e1).1 hx) (by rw [e2]; exact hb)
    rw [this]
    simp; omega
/-! ### In memory -/
/-- In Put's loop: i words are moved in the row at r, 'is' says what the first j of them say. -/
structure PS (w : World) (F FT : Nat → Prop) (gh g : Nat) (L : List ByteArray) (lim : Int) (H : List It) (v : Value) (bm N0 r c : Nat) (fl : List Int) (d : Int) (wr : World) (i j : Nat) : Prop where
  st : ∃ N D, Hq wr (fun b => F b ∨ FT b) FT gh g L lim (hW H) (ups (kindAt H) ((fl.take j).map (reb d))) v bm N D ∧ N ≤ N0 + (fl.take j).countP boxd
  row : wr.ownsRow w.heap.size 31 1 (.slice (some ⟨r, 0, none⟩) fl.length c) fl.length (u64s (mrow d fl i))
  kp : Keep F w wr
  nr : ¬ (F r ∨ FT r)
section
variable {w : World} {F FT : Nat → Prop} {gh g : Nat} {L : List ByteArray} {lim : Int} {H : List It} {v : Value} {bm N0 r c : Nat} {fl : List Int} {d : Int} {wr w' : World} {i j : Nat}
theorem PS.below (h : PS w F FT gh g L lim H v bm N0 r c fl d wr i j) (hb : Below wr.heap.size wr w') : PS w F FT gh g L lim H v bm N0 r c fl d w' i j := by
  obtain ⟨⟨N, D, hq, hN⟩, hrow, hk, hn⟩ := h
  exact ⟨⟨N, D, hq.below hb, hN⟩, ownsRow_keep hrow (F := fun _ => False) (Keep.new hb) (fun _ _ h => h), hk.trans (Keep.new (F := fun _ => False) hb) (fun _ _ h => h.elim), hn⟩
theorem PS.cells (h : PS w F FT gh g L lim H v bm N0 r c fl d wr i j) : ∃ A c', v = .slice A (hW H).length c' ∧ wr.cell? ⟨gh, 2, none⟩ = some (.slice A (hW H).length c') ∧ wr.cell? ⟨gh, 3, none⟩ = some (.map (some bm)) ∧ wr.frozen? ⟨gh, 2, none⟩ = false := by
  obtain ⟨⟨N, D, hq, hN⟩, hrow, hk, hn⟩ := h
  obtain ⟨A, c', rfl, _, _, c0, c1, c2, c3⟩ := hq.cells
  exact ⟨A, c', rfl, c2, c3, hq.blk.frozen 2⟩
theorem PS.at_ (h : PS w F FT gh g L lim H v bm N0 r c fl d wr i i) {u : Int} (hu : fl[i]? = some u) : wr.cell? ⟨r, i, none⟩ = some (.int .u64 u) ∧ wr.frozen? ⟨r, i, none⟩ = false := by
  obtain ⟨_, hrow, hk, hn⟩ := h
  have hi := (List.getElem?_eq_some_iff.1 hu).1
  obtain ⟨r', c', hv, _, _, _, _, k5⟩ := ownsRow_at hrow hi
  injection hv with hv
  injection hv with hv
  injection hv with hv
  subst hv
  exact ⟨k5 i _ (by unfold u64s; rw [List.getElem?_map, mrow_get hu]; rfl), hrow.frozenAt i⟩
theorem PS.skip (h : PS w F FT gh g L lim H v bm N0 r c fl d wr i i) {u : Int} (hu : fl[i]? = some u) (hb : boxd u = false) : PS w F FT gh g L lim H v bm N0 r c fl d wr (i + 1) (i + 1) := by
  obtain ⟨⟨N, D, hq, hN⟩, hrow, hk, hn⟩ := h
  have hr : reb d u = u := by unfold reb; rw [hb]; rfl
  refine ⟨⟨N, D, ?_, ?_⟩, ?_, hk, hn⟩
  · rw [ups_succ _ hu, hr]
    unfold upW
    rw [hb]
    exact hq
  · rw [cnt_succ hu, hb]; exact hN
  · rw [mrow_succ hu, hr]
    have hg := mrow_get (d := d) hu
    have : (mrow d fl i).set i u = mrow d fl i := by
      apply List.ext_getElem?
      intro k
      rw [List.getElem?_set]
      split
      · rename_i e; subst e
        split
        · exact hg.symm
        · rename_i hl; rw [mrow_len] at hl; exact absurd (List.getElem?_eq_some_iff.1 hu).1 hl
      · rfl
    rw [this]
    exact hrow
theorem PS.store (h : PS w F FT gh g L lim H v bm N0 r c fl d wr i i) {u : Int} (hu : fl[i]? = some u) : PS w F FT gh g L lim H v bm N0 r c fl d (wr.setCell ⟨r, i, none⟩ (.int .u64 (reb d u))) (i + 1) i := by
  obtain ⟨⟨N, D, hq, hN⟩, hrow, hk, hn⟩ := h
  obtain ⟨q1, q2⟩ := hrow.stored i (.int .u64 (reb d u))
  have hrl := (hrow.lt r rfl).1
  have hks : Keep (fun b => b = r) wr (wr.setCell ⟨r, i, none⟩ (.int .u64 (reb d u))) := (Keep.refl (fun b => b = r) wr).setCell (p := ⟨r, i, none⟩) (.inl rfl) _
  refine ⟨⟨N, D, hq.keep hks (fun b hb e => hn (e ▸ hb)), hN⟩, ?_, hk.trans hks (fun b hb e => absurd hrl (by omega)), hn⟩
  rw [mrow_succ hu]
  unfold u64s at q1 ⊢
  rwa [List.map_set]
theorem PS.mapped (h : PS w F FT gh g L lim H v bm N0 r c fl d wr (i + 1) i) {u : Int} (hu : fl[i]? = some u) (hb : boxd u = true) (hr : boxd (reb d u) = true ∧ unK (reb d u) = unK u ∧ unN (reb d u) = unN u + d) :
    ∃ (N : Nat) (D : DataW Unit), wr.ownsMap Try.prog 3 (plainElem Try.prog 3) bm N D ∧ N ≤ N0 + (fl.take i).countP boxd ∧ ∀ w', wr.grownBy w' (some bm) → w'.ownsMap Try.prog 3 (plainElem Try.prog 3) bm (N + 1) (D.put (.int .i64 (unN u + d)) (.lit (.int .i64 (unK u)))) → PS w F FT gh g L lim H v bm N0 r c fl d w' (i + 1) (i + 1) := by
  obtain ⟨⟨N, D, hq, hN⟩, hrow, hk, hn⟩ := h
  refine ⟨N, D, hq.map, hN, fun w' hg hM => ?_⟩
  have hbr : bm ≠ r := fun e => hn (e ▸ hq.fm)
  have hbv : v.ownBlock ≠ some bm := map_row_ne hq.map hq.row
  have hkw : Keep (fun b => b = bm) wr w' := (Keep.refl _ _).grown hg (fun k hk => by injection hk with hk; exact .inl hk.symm)
  refine ⟨⟨N + 1, _, ⟨fun k hf => Nat.lt_of_lt_of_le (hq.fl k hf) hg.size, hq.fg, hq.fm, hq.fv, hq.ft, hq.ng, hq.nm, hq.nv, hq.tab.keep hkw (fun k hk e => hq.nm (e ▸ hk)), hq.blk.keep hkw (fun e => map_blk_ne hq.map hq.blk e.symm), ownsRow_keep hq.row hkw (fun k hk e => hbv (by rw [hk, e])), hM, ?_⟩, ?_⟩, ownsRow_keep hrow hkw (fun k hk e => by injection hk with hk; exact hbr (e.symm.trans hk.symm)), hk.trans hkw (fun b hbl e => ?_), hn⟩
  · have := hq.hD.put (unN u + d) (unK u)
    rw [ups_succ _ hu]
    unfold upW
    rw [if_pos hr.1, hr.2.1, hr.2.2]
    exact this
  · rw [cnt_succ hu, if_pos hb]; omega
  · subst e
    rcases hq.fm with h | h
    · exact h
    · exact absurd h hq.nm
/-- Behind the loop: the words are appended. -/
theorem PS.push (h : PS w F FT gh g L lim H v bm N0 r c fl d wr i j) {w2 : World} {v' : Value} {W' : List Int} {n' : Nat} (hn' : n' = W'.length) (hg : wr.grownBy w2 v.ownBlock) (hR : w2.ownsRow 0 31 1 v' n' (u64s W')) (hat : v'.ownBlock = v.ownBlock ∨ v'.ownBlock = some wr.heap.size) (hFl : ∀ k, F k → k < w.heap.size) (hv : ∀ k, v.ownBlock = some k → F k) :
    ∃ F' N D, Hq (w2.setCell ⟨gh, 2, none⟩ v') F' FT gh g L lim W' (ups (kindAt H) ((fl.take j).map (reb d))) v' bm N D ∧ N ≤ N0 + (fl.take j).countP boxd ∧ (∀ k, F' k → F k ∨ FT k ∨ w.heap.size ≤ k) ∧ Keep F w (w2.setCell ⟨gh, 2, none⟩ v') := by
  obtain ⟨⟨N, D, hq, hN⟩, hrow, hk, hn⟩ := h
  subst hn'
  have hkw : Keep F wr w2 := (Keep.refl _ _).grown hg (fun k hk => .inl (hv k hk))
  have hgF : F gh := by
    rcases hq.fg with h | h
    · exact h
    · exact absurd h hq.ng
  have hvg : v.ownBlock ≠ some gh := own_blk_ne hq.row hq.blk (by decide)
  have hvm : v.ownBlock ≠ some bm := map_row_ne hq.map hq.row
  have hkF : Keep F w w2 := hk.trans hkw (fun b _ hf => hf)
  have hsz := hg.size
  have hvr : ∀ k, v'.ownBlock = some k → (F k ∨ FT k ∨ k = wr.heap.size) ∧ ¬ FT k := fun k hk' => by
    rcases hat with h | h
    · rw [h] at hk'
      exact ⟨.inl (hv k hk'), hq.nv k hk'⟩
    · rw [h] at hk'
      injection hk' with hk'
      subst hk'
      exact ⟨.inr (.inr rfl), fun hf => by have := hq.fl _ (.inr hf); omega⟩
  have hlt2 : ∀ k, v'.ownBlock = some k → k < w2.heap.size := fun k hk' => (hR.lt k hk').2
  have hnv : v'.ownBlock ≠ some gh := by
    rcases hat with h | h
    · rw [h]; exact hvg
    · rw [h]
      intro e
      injection e with e
      have := hq.fl _ hq.fg
      omega
  have hsF : Keep (fun k => k = gh) w2 (w2.setCell ⟨gh, 2, none⟩ v') := (Keep.refl (fun k => k = gh) w2).setCell (p := ⟨gh, 2, none⟩) (.inl rfl) _
  refine ⟨fun k => F k ∨ FT k ∨ v'.ownBlock = some k, N, D, ⟨fun k hf => ?_, .inl hgF, .inl ?_, fun k hk => .inr (.inr hk), fun k hf => .inr (.inl hf), hq.ng, hq.nm, fun k hk => (hvr k hk).2, ?_, ?_, ?_, ?_, hq.hD⟩, hN, fun k hf => ?_, hkF.trans hsF (fun b _ e => e ▸ hgF)⟩
  · have e0 : (w2.setCell ⟨gh, 2, none⟩ v').heap.size = w2.heap.size := by simp [World.setCell]
    rw [e0]
    rcases hf with h | h | h
    · exact Nat.lt_of_lt_of_le (hq.fl k (.inl h)) hsz
    · exact Nat.lt_of_lt_of_le (hq.fl k (.inr h)) hsz
    · exact hlt2 k h
  · rcases hq.fm with h | h
    · exact h
    · exact absurd h hq.nm
  · exact (hq.tab.grown hg (fun k hk => hq.nv k hk)).keep hsF (fun k hk e => hq.ng (e ▸ hk))
  · have := (hq.blk.grown hg (fun e => hvg e.symm)).set_ 2 v'
    simpa using this
  · exact ownsRow_keep hR hsF (fun k hk e => hnv (by rw [hk, e]))
  · exact ownsMap_keep (hq.map.kept hg (fun e => hvm e.symm)) hsF (fun e => map_blk_ne hq.map hq.blk e)
  · rcases hf with h | h | h
    · exact .inl h
    · exact .inr (.inl h)
    · rcases (hvr k h).1 with h | h | h
      · exact .inl h
      · exact .inr (.inl h)
      · exact .inr (.inr (by have := hk.size; omega))
end
/-- Behind Flatten. -/
theorem Hq.flat {w w' : World} {F FT : Nat → Prop} {gh g : Nat} {L : List ByteArray} {lim : Int} {W : List Int} {m : Int → Int} {v : Value} {bm N : Nat} {D : DataW Unit} (h : Hq w F FT gh g L lim W m v bm N D) {FT' : Nat → Prop} {L' : List ByteArray} (hk : Keep FT w w') (hT : Tab w' FT' g L') (hF : ∀ k, FT' k → FT k ∨ w.heap.size ≤ k) :
    Hq w' (fun k => F k ∨ FT' k) FT' gh g L' lim W m v bm N D ∧ Keep F w w' := by
  have hlt : ∀ k, F k → ¬ FT k → ¬ FT' k := fun k hf hn hf' => by
    rcases hF k hf' with h1 | h1
    · exact hn h1
    · have := h.fl k hf; omega
  refine ⟨⟨fun k hf => ?_, .inl h.fg, .inl h.fm, fun r hr => .inl (h.fv r hr), fun k hf => .inr hf, hlt _ h.fg h.ng, hlt _ h.fm h.nm, fun r hr => hlt _ (h.fv r hr) (h.nv r hr), hT, h.blk.keep hk h.ng, ownsRow_keep h.row hk h.nv, ownsMap_keep h.map hk h.nm, h.hD⟩, hk.mono (fun i _ hi => h.ft i hi)⟩
  rcases hf with h1 | h1
  · exact Nat.lt_of_lt_of_le (h.fl k h1) hk.size
  · exact Tab.lt_ hT k h1
theorem Tab.le4 {w : World} {F : Nat → Prop} {g : Nat} {L : List ByteArray} (h : Tab w F g L) : L.length ≤ 4096 := by
  obtain ⟨bm, v, D, fl, fg, fm, fv, hB, hM, hD, hR, hnd, hsz, hl4, hby⟩ := h
  exact hl4
end Go.Proofs.Ytnedjmjcbmoknaa.Hp
