/- What a pattern matches: filled with the bindings it is the term; with them first it matches again. Plain. -/
import Derived.Test.YtlaplakaifmpeaaPatPlain
namespace Go.Proofs.Ytlaplakaifmpeaa.Pt
open Go.RowKit K Go.Shelf
set_option linter.unusedVariables false
set_option linter.unusedSimpArgs false

theorem goes_yes {t : Tm} (h : t.k = 7 ∨ t.k = 9) : goes t = true := by unfold goes; simpa using h
theorem goes_no {t : Tm} (h : ¬ (t.k = 7 ∨ t.k = 9)) : ¬ goes t = true := by unfold goes; simpa using h
def Ext (b b' : Bf) : Prop := ∀ n u, b n = some u → b' n = some u
theorem Ext.refl (b : Bf) : Ext b b := fun _ _ h => h
theorem Ext.trans {a b c : Bf} (h : Ext a b) (h' : Ext b c) : Ext a c := fun n u e => h' n u (h n u e)
theorem varIn_append (L M : List Tm) (n : Nat) : varIn (L ++ M) n = (varIn L n || varIn M n) := by unfold varIn; rw [List.any_append]
theorem varIn_one (u : Tm) (n : Nat) : varIn [u] n = decide (isVar u = some n) := by unfold varIn; simp
/-- What a match does: with G a property of terms that their parts have too. -/
structure MR (G : Tm → Prop) (b b' : Bf) (S : Nat → Bool) : Prop where
  ext : Ext b b'
  dom : ∀ n, (b' n).isSome = ((b n).isSome || S n)
  good : (∀ n u, b n = some u → G u) → ∀ n u, b' n = some u → G u
theorem MR.same {G : Tm → Prop} {b : Bf} {S : Nat → Bool} (h : ∀ n, S n = true → (b n).isSome = true) : MR G b b S :=
  ⟨Ext.refl b, fun n => by cases hs : S n with | false => simp | true => rw [h n hs]; rfl, fun h => h⟩
theorem mm (G : Tm → Prop) (hG : ∀ t, G t → ∀ u ∈ t.l, G u) : ∀ p t b b', matchF p t b = some b' → G t →
    MR G b b' (varIn (rleafs p)) ∧ (∀ c, Ext b' c → matchF p t c = some c) ∧ (∀ c, Ext b' c → snd p → snd t → ∀ u, fillP p c = some u → u = t) := by
  refine Tm.ind fun p ih t b b' h hGt => ?_
  obtain ⟨k, n, s, l⟩ := p
  simp only [Tm.l_mk] at ih
  rw [matchF] at h
  by_cases h2 : k = 2
  · rw [if_pos h2] at h
    have hrl : rleafs (.mk k n s l) = [.mk k n s l] := by rw [rleafs_eq, if_neg (goes_no (by simp only [Tm.k_mk]; omega))]
    have hiv : isVar (.mk k n s l) = numS s := by unfold isVar; simp [h2]
    rw [hrl]
    by_cases hus : s = uscore
    · rw [if_pos hus] at h
      injection h with h
      subst h
      refine ⟨MR.same fun m hm => ?_, fun c _ => ?_, fun c _ _ _ u hu => ?_⟩
      · rw [varIn_one, hiv, hus] at hm
        simp [numS, uscore, numL] at hm
      · rw [matchF, if_pos h2, if_pos hus]
      · rw [fillP, if_pos h2, if_pos hus] at hu; cases hu
    · rw [if_neg hus] at h
      cases hns : numS s with
      | none =>
        rw [hns] at h
        simp only at h
        by_cases e : eqT (.mk k n s l) t = true
        · rw [if_pos e] at h
          injection h with h
          subst h
          refine ⟨MR.same fun m hm => ?_, fun c _ => ?_, fun c _ _ _ u hu => ?_⟩
          · rw [varIn_one, hiv, hns] at hm; simp at hm
          · rw [matchF, if_pos h2, if_neg hus, hns]; simp only; rw [if_pos e]
          · rw [fillP, if_pos h2, if_neg hus, hns] at hu
            injection hu with hu
            rw [← hu]
            exact eqT_iff.1 e
        · rw [if_neg e] at h; cases h
      | some q =>
        rw [hns] at h
        simp only at h
        cases hbq : b q with
        | some u0 =>
          rw [hbq] at h
          simp only at h
          by_cases e : eqT u0 t = true
          · rw [if_pos e] at h
            injection h with h
            subst h
            have e2 := eqT_iff.1 e
            subst e2
            refine ⟨MR.same fun m hm => ?_, fun c hc => ?_, fun c hc _ _ u hu => ?_⟩
            · rw [varIn_one, hiv, hns] at hm
              simp at hm
              rw [← hm, hbq]; rfl
            · rw [matchF, if_pos h2, if_neg hus, hns]; simp only; rw [hc q _ hbq]; simp only; rw [if_pos e]
            · rw [fillP, if_pos h2, if_neg hus, hns] at hu
              simp only at hu
              rw [hc q _ hbq] at hu
              injection hu with hu
              exact hu.symm
          · rw [if_neg e] at h; cases h
        | none =>
          rw [hbq] at h
          injection h with h
          subst h
          have hcq : ∀ c, Ext (upd b q t) c → c q = some t := fun c hc => hc q t (by unfold upd; rw [if_pos rfl])
          refine ⟨⟨fun m u hm => ?_, fun m => ?_, fun hg m u hm => ?_⟩, fun c hc => ?_, fun c hc _ _ u hu => ?_⟩
          · unfold upd
            rw [if_neg (fun e => by rw [e, hbq] at hm; cases hm)]
            exact hm
          · rw [varIn_one, hiv, hns]
            unfold upd
            by_cases e : m = q
            · subst e; simp
            · rw [if_neg e]
              have : ¬ (some q = some m) := fun h => e (by injection h with h; exact h.symm)
              simp [this]
          · unfold upd at hm
            by_cases e : m = q
            · rw [if_pos e] at hm; injection hm with hm; rw [← hm]; exact hGt
            · rw [if_neg e] at hm; exact hg m u hm
          · rw [matchF, if_pos h2, if_neg hus, hns]; simp only; rw [hcq c hc]; simp only; rw [if_pos (eqT_iff.2 rfl)]
          · rw [fillP, if_pos h2, if_neg hus, hns] at hu
            simp only at hu
            rw [hcq c hc] at hu
            injection hu with hu
            exact hu.symm
  rw [if_neg h2] at h
  by_cases h79 : k = 7 ∨ k = 9
  · rw [if_pos h79] at h
    obtain ⟨tk, tn, ts, tl⟩ := t
    replace h : (if tk = k ∧ tl.length = l.length then matchL l tl b else none) = some b' := h
    by_cases hc : tk = k ∧ tl.length = l.length
    · rw [if_pos hc] at h
      have hrl : rleafs (.mk k n s l) = rleafsL l := by rw [rleafs_eq, if_pos (goes_yes (t := .mk k n s l) h79)]; rfl
      rw [hrl]
      have hL : ∀ (r r' : List Tm) (b b' : Bf), (∀ u ∈ r, u ∈ l) → (∀ u ∈ r', G u) → r'.length = r.length → matchL r r' b = some b' →
          MR G b b' (varIn (rleafsL r)) ∧ (∀ c, Ext b' c → matchL r r' c = some c) ∧ (∀ c, Ext b' c → (∀ u ∈ r, snd u) → (∀ u ∈ r', snd u) → ∀ us, fillL r c = some us → us = r') := fun r => by
        induction r with
        | nil =>
          intro r' b b' _ _ hl h
          have : r' = [] := by cases r' with | nil => rfl | cons => simp at hl
          subst this
          rw [matchL_nil] at h
          injection h with h
          subst h
          exact ⟨MR.same fun m hm => by rw [rleafsL_nil] at hm; simp [varIn] at hm, fun c _ => matchL_nil _ _, fun c _ _ _ us hu => by rw [fillL_nil] at hu; injection hu with hu; exact hu.symm⟩
        | cons u r ihr =>
          intro r' b b' hr hg hl h
          cases r' with
          | nil => simp at hl
          | cons u' r' =>
            rw [matchL_cons] at h
            cases hm1 : matchF u u' b with
            | none => rw [hm1] at h; cases h
            | some b1 =>
              rw [hm1] at h
              replace h : matchL r r' b1 = some b' := h
              obtain ⟨m1, a1, f1⟩ := ih u (hr u (List.mem_cons_self ..)) u' b b1 hm1 (hg u' (List.mem_cons_self ..))
              obtain ⟨m2, a2, f2⟩ := ihr r' b1 b' (fun v hv => hr v (List.mem_cons_of_mem _ hv)) (fun v hv => hg v (List.mem_cons_of_mem _ hv)) (by simpa using hl) h
              refine ⟨⟨m1.ext.trans m2.ext, fun m => ?_, fun hb => m2.good (m1.good hb)⟩, fun c hc => ?_, fun c hc hs hs' us hu => ?_⟩
              · rw [m2.dom, m1.dom, rleafsL_cons, varIn_append]
                cases (b m).isSome <;> cases varIn (rleafs u) m <;> cases varIn (rleafsL r) m <;> rfl
              · rw [matchL_cons, a1 c (m2.ext.trans hc)]
                exact a2 c hc
              · rw [fillL_cons] at hu
                cases hf1 : fillP u c with
                | none => rw [hf1] at hu; cases hu
                | some v1 =>
                  cases hf2 : fillL r c with
                  | none => rw [hf1, hf2] at hu; cases hu
                  | some vs =>
                    rw [hf1, hf2] at hu
                    injection hu with hu
                    subst hu
                    rw [f1 c (m2.ext.trans hc) (hs u (List.mem_cons_self ..)) (hs' u' (List.mem_cons_self ..)) v1 hf1, f2 c hc (fun v hv => hs v (List.mem_cons_of_mem _ hv)) (fun v hv => hs' v (List.mem_cons_of_mem _ hv)) vs hf2]
      obtain ⟨m0, a0, f0⟩ := hL l tl b b' (fun u h => h) (fun u hu => hG _ hGt u hu) hc.2 h
      refine ⟨m0, fun c hcx => ?_, fun c hcx hs ht u hu => ?_⟩
      · rw [matchF, if_neg h2, if_pos h79]
        show (if tk = k ∧ tl.length = l.length then matchL l tl c else none) = _
        rw [if_pos hc]
        exact a0 c hcx
      · rw [fillP, if_neg h2, if_pos h79] at hu
        cases hf : fillL l c with
        | none => rw [hf] at hu; cases hu
        | some l' =>
          rw [hf] at hu
          injection hu with hu
          subst hu
          have h1 := snd_inner hs h79
          have h3 := snd_inner ht (by rw [Tm.k_mk, hc.1]; exact h79)
          simp only [Tm.n_mk, Tm.s_mk] at h1 h3
          rw [f0 c hcx (fun v hv => snd_mem hs hv) (fun v hv => snd_mem ht hv) l' hf, hc.1, h1.1, h3.1, bytes_empty h1.2 h3.2]
    · rw [if_neg hc] at h; cases h
  · rw [if_neg h79] at h
    have hrl : rleafs (.mk k n s l) = [.mk k n s l] := by rw [rleafs_eq, if_neg (goes_no (t := .mk k n s l) h79)]
    have hiv : isVar (.mk k n s l) = none := by unfold isVar; simp [h2]
    rw [hrl]
    by_cases e : eqT (.mk k n s l) t = true
    · rw [if_pos e] at h
      injection h with h
      subst h
      refine ⟨MR.same fun m hm => ?_, fun c _ => ?_, fun c _ _ _ u hu => ?_⟩
      · rw [varIn_one, hiv] at hm; simp at hm
      · rw [matchF, if_neg h2, if_neg h79, if_pos e]
      · rw [fillP, if_neg h2, if_neg h79] at hu
        injection hu with hu
        rw [← hu]
        exact eqT_iff.1 e
    · rw [if_neg e] at h; cases h

/-! ### Bindings as a list -/
theorem okFrom_snoc {p : Bnd} : ∀ (l : List Bnd) (last : Int), okFrom last l = true → (∀ q ∈ l, q.1 < p.1) → last < p.1 → p.1 ≤ 99 → mayT p.2 = true → okFrom last (l ++ [p]) = true
  | [], last, _, _, h1, h2, h3 => by simp [okFrom, h1, h2, h3]
  | q :: r, last, h, hq, h1, h2, h3 => by
    simp only [okFrom, List.cons_append, Bool.and_eq_true] at h ⊢
    exact ⟨h.1, okFrom_snoc r q.1 h.2 (fun x hx => hq x (List.mem_cons_of_mem _ hx)) (hq q (List.mem_cons_self ..)) h2 h3⟩
theorem bl_mem {b : Bf} {j : Nat} {q : Bnd} (h : q ∈ bl b j) : ∃ n, n < j ∧ b n = some q.2 ∧ q.1 = (n : Int) := by
  unfold bl at h
  rw [List.mem_filterMap] at h
  obtain ⟨n, hn, h⟩ := h
  cases hb : b n with
  | none => rw [hb] at h; cases h
  | some t =>
    rw [hb] at h
    injection h with h
    subst h
    exact ⟨n, List.mem_range.1 hn, hb, rfl⟩
theorem okFrom_bl {b : Bf} (hb : ∀ n u, b n = some u → mayT u = true) : ∀ j, j ≤ 100 → okFrom (-1) (bl b j) = true
  | 0, _ => rfl
  | j + 1, hj => by
    rw [bl_succ]
    cases hbj : b j with
    | none => simpa using okFrom_bl hb j (by omega)
    | some t => exact okFrom_snoc _ _ (okFrom_bl hb j (by omega)) (fun q hq => by obtain ⟨n, hn, _, e⟩ := bl_mem hq; rw [e]; show (n : Int) < (j : Int); omega) (by show (-1 : Int) < (j : Int); omega) (by show (j : Int) ≤ 99; omega) (hb j t hbj)
theorem bfold_bl (b : Bf) : ∀ j n, bfold (bl b j) n = if n < j then b n else none
  | 0, n => rfl
  | j + 1, n => by
    rw [bl_succ]
    cases hbj : b j with
    | none =>
      simp only [List.append_nil]
      rw [bfold_bl b j n]
      by_cases e : n = j
      · subst e; simp [hbj]
      · by_cases e2 : n < j
        · rw [if_pos e2, if_pos (by omega)]
        · rw [if_neg e2, if_neg (by omega)]
    | some t =>
      rw [bfold_snoc]
      unfold upd
      simp only [Int.toNat_natCast]
      by_cases e : n = j
      · subst e; simp [hbj]
      · rw [if_neg e, bfold_bl b j n]
        by_cases e2 : n < j
        · rw [if_pos e2, if_pos (by omega)]
        · rw [if_neg e2, if_neg (by omega)]
theorem bl_fst (b : Bf) : ∀ j, (bl b j).map (·.1) = varsUp (fun n => (b n).isSome) j
  | 0 => rfl
  | j + 1 => by
    rw [bl_succ, varsUp_succ, List.map_append, bl_fst b j]
    cases hbj : b j with
    | none => simp
    | some t => simp
theorem may_mem {t u : Tm} (h : mayT t = true) (hu : u ∈ t.l) : mayT u = true := by
  have hs := snd_of_may h
  have hsu := snd_mem hs hu
  unfold mayT chk at h ⊢
  unfold snd at hs hsu
  rw [if_pos hs] at h
  rw [if_pos hsu]
  have hw : wrdL (subs u) ≤ wrdL (subs t) := by
    rw [subs_eq t]
    have h1 : wrdL (subs u) ≤ wrdL (subsL t.l) := by
      have : ∀ l : List Tm, u ∈ l → wrdL (subs u) ≤ wrdL (subsL l) := fun l => by
        induction l with
        | nil => intro h; simp at h
        | cons a r ih =>
          intro h
          rw [subsL_cons, wrdL_append]
          have r1 := wrdL_range (subs a)
          have r2 := wrdL_range (subsL r)
          rcases List.mem_cons.1 h with rfl | h
          · omega
          · have := ih h; omega
      exact this _ hu
    have h2 := ownN_range t
    show _ ≤ ownN t + wrdL (subsL t.l)
    omega
  by_cases h3 : 65536 < wrdL (subs t)
  · rw [if_pos h3] at h; simp at h
  · rw [if_neg (by omega)]; rfl
/-- What the law asks, of bindings with which p matches t. -/
theorem back {p t : Tm} {l : List Bnd} (h : moreP p t [] = some l) (hn : nodes t ≤ 300) :
    moreP p t l = some l ∧ l.map (·.1) = varsT p ∧ (∀ q ∈ l, findF l q.1 = some q.2) ∧ (∀ u, filledF p l = some u → u = t) ∧ (∀ q ∈ l, nodes q.2 ≤ 300) ∧ mayT p = true ∧ l.length ≤ 100 ∧ (∀ q ∈ l, 0 ≤ q.1 ∧ q.1 ≤ 99) := by
  unfold moreP at h
  by_cases hc : okFrom (-1) [] = true ∧ mayT p = true ∧ mayT t = true
  · rw [if_pos hc] at h
    obtain ⟨_, hp, ht⟩ := hc
    cases hm : matchF p t (bfold []) with
    | none => rw [hm] at h; cases h
    | some B =>
      rw [hm] at h
      injection h with h
      subst h
      obtain ⟨m, ag, fi⟩ := mm (fun u => mayT u = true ∧ nodes u ≤ 300) (fun t ht u hu => ⟨may_mem ht.1 hu, by have := nodesL_mem hu; have := nodes_eq t; have := ht.2; omega⟩) p t _ B hm ⟨ht, hn⟩
      have hgood := m.good (fun n u h => by cases h)
      have hdom : ∀ n, (B n).isSome = varIn (rleafs p) n := fun n => by rw [m.dom n]; rfl
      have hbig : ∀ n, ¬ n < 100 → B n = none := fun n hn => by
        cases hb : B n with
        | none => rfl
        | some u =>
          have := hdom n
          rw [hb] at this
          have h2 : varIn (rleafs p) n = true := this.symm
          unfold varIn at h2
          rw [List.any_eq_true] at h2
          obtain ⟨v, _, hv⟩ := h2
          have hv : isVar v = some n := by simpa using hv
          unfold isVar at hv
          by_cases hk : v.k = 2
          · rw [if_pos hk] at hv
            exact absurd (numL_lt hv) hn
          · rw [if_neg hk] at hv; cases hv
      have hfold : bfold (bl B 100) = B := by
        funext n
        rw [bfold_bl]
        by_cases e : n < 100
        · rw [if_pos e]
        · rw [if_neg e, hbig n e]
      have hok := okFrom_bl (b := B) (fun n u h => (hgood n u h).1) 100 (Nat.le_refl _)
      refine ⟨?_, ?_, fun q hq => ?_, fun u hu => ?_, fun q hq => ?_, hp, bl_len B 100, fun q hq => by obtain ⟨n, hn, _, e⟩ := bl_mem hq; omega⟩
      · unfold moreP
        rw [if_pos ⟨hok, hp, ht⟩, hfold, ag B (Ext.refl B)]
        rfl
      · rw [bl_fst]
        unfold varsT
        congr 1
        funext n
        exact hdom n
      · obtain ⟨n, hn1, hn2, hn3⟩ := bl_mem hq
        unfold findF
        rw [hn3, if_pos ⟨hok, by omega, by omega⟩, hfold, Int.toNat_natCast, hn2]
      · unfold filledF at hu
        rw [if_pos ⟨hok, hp⟩, hfold] at hu
        cases hf : fillP p B with
        | none => rw [hf] at hu; cases hu
        | some v =>
          rw [hf] at hu
          replace hu : (if mayT v = true then some v else none) = some u := hu
          by_cases e : mayT v = true
          · rw [if_pos e] at hu
            injection hu with hu
            rw [← hu]
            exact fi B (Ext.refl B) (snd_of_may hp) (snd_of_may ht) v hf
          · rw [if_neg e] at hu; cases hu
      · obtain ⟨n, _, hn2, _⟩ := bl_mem hq
        exact (hgood n _ hn2).2
  · rw [if_neg hc] at h; cases h
end Go.Proofs.Ytlaplakaifmpeaa.Pt
