/- flat.reader's term, by its contract. -/
import Derived.Test.YtfcialleekfjmaaFlTerm4
namespace Go.Proofs.Ytfcialleekfjmaa.Fl
open Go.RowKit K At Wd
set_option linter.unusedVariables false
set_option linter.unusedSimpArgs false

theorem rdT_succ (A : List ByteArray) (l : List Int) (fuel : Nat) (w : Int) (p : Nat) : rdT A l (fuel + 1) w p = if unE w ≠ 0 then none
    else if leafK (unK w) then some (.mk (unK w) (unN w) ⟨#[]⟩ [], p)
    else if unK w = 2 then (match A[(unN w).toNat]? with
      | some s => some (.mk 2 0 s [], p)
      | none => none)
    else if boxK (unK w) then (if unN w = (p : Int) then (match hdR l (unK w) p with
      | none => none
      | some h => if h.2.2 + h.2.1 ≤ l.length then partsR (rdT A l fuel) (unK w) h.1 ((l.drop h.2.2).take h.2.1) (h.2.2 + h.2.1) else none) else none)
    else none := by
  rw [rdT]
  rfl
theorem hdR_9 (l : List Int) (q : Nat) : hdR l 9 q = some (0, 2, q) := by unfold hdR; rw [if_pos rfl]
theorem hdR_75 {l : List Int} {k : Int} {q : Nat} {h : Int × Nat × Nat} (hk : k = 7 ∨ k = 5) (e : hdR l k q = some h) :
    ∃ x, l[q]? = some x ∧ unE x = 0 ∧ unK x = (if k = 7 then 10 else 11) ∧ h = (if k = 7 then (0, (unN x).toNat, q + 1) else (unN x / 128, (unN x % 128).toNat, q + 1)) := by
  unfold hdR at e
  rw [if_neg (by omega)] at e
  cases hx : l[q]? with
  | none => rw [hx] at e; cases e
  | some x =>
    rw [hx] at e
    simp only at e
    by_cases h1 : unE x = 0 ∧ unK x = (if k = 7 then 10 else 11)
    · rw [if_pos h1] at e
      refine ⟨x, rfl, h1.1, h1.2, ?_⟩
      by_cases h7 : k = 7
      · rw [if_pos h7] at e ⊢; injection e with e; exact e.symm
      · rw [if_neg h7] at e ⊢; injection e with e; exact e.symm
    · rw [if_neg h1] at e; cases e
theorem term_any (gR : Nat) (A : Option Addr) (l : List Int) (c g : Nat) (F : Nat → Prop) (Ts : List ByteArray) (hU : ∀ x ∈ l, U64 x) (hlc : l.length ≤ c) (hA : A = none → c = 0) (hl6 : l.length ≤ 65536) (hA64 : ∀ s ∈ Ts, s.size ≤ 64) :
    ∀ (fuel : Nat) (x : Int), U64 x → ∀ q : Nat, q ≤ l.length → l.length < q + fuel → ∀ w, REnv w gR g F Ts A l → Rdr w gR (.pointer (some ⟨g, 0, none⟩)) A l.length c (q : Int) false →
      Calls Try.prog 41 #[.pointer (some ⟨gR, 0, none⟩), .int .u64 x] w (RdPost w gR (.pointer (some ⟨g, 0, none⟩)) A l c (rdT Ts l fuel x q)) := by
  intro fuel
  induction fuel with
  | zero => intro x hx q hq hf; omega
  | succ fuel IH =>
    intro x hx q hq hf w henv hr
    rw [rdT_succ]
    by_cases hE : unE x = 0
    · rw [if_neg (fun h => h hE)]
      obtain ⟨_, _, n1, n2, n3, k1, k2⟩ := un_facts hE
      by_cases hlf : leafK (unK x)
      · rw [if_pos hlf]
        exact term_leaf gR _ A l c q x _ _ hx rfl rfl hE hlf w hr
      rw [if_neg hlf]
      by_cases h2 : unK x = 2
      · rw [if_pos h2]
        rw [h2] at n1
        have e1 : low 2 = 0 := rfl
        rw [e1] at n1
        obtain ⟨m, hm⟩ : ∃ m : Nat, unN x = (m : Int) := ⟨(unN x).toNat, by omega⟩
        have hm' : (unN x).toNat = m := by omega
        rw [hm']
        cases hT : Ts[m]? with
        | some s => exact term_atom gR _ A l c q x _ _ _ hx rfl rfl rfl m hm s g F Ts rfl hE h2 hT (hA64 s (List.mem_of_getElem? hT)) w henv hr
        | none => exact term_noatom gR _ A l c q x _ _ _ hx rfl rfl rfl m hm ⟨#[]⟩ g F Ts rfl hE h2 (List.getElem?_eq_none_iff.1 hT) w henv hr
      rw [if_neg h2]
      by_cases hbx : boxK (unK x)
      · rw [if_pos hbx]
        by_cases hnq : unN x = (q : Int)
        · rw [if_pos hnq]
          rcases hbx with h7 | h5 | h9
          · rw [h7]
            cases hh : hdR l 7 q with
            | none => exact box7_no gR _ A l c q x hx h7 hnq hE hq hl6 hU hlc hA g F Ts (fun h e => by rw [hh] at e; cases e) w henv hr
            | some h =>
              simp only
              by_cases hle : h.2.2 + h.2.1 ≤ l.length
              · rw [if_pos hle]
                obtain ⟨y, hy, hyE, hyK, he⟩ := hdR_75 (.inl rfl) hh
                rw [if_pos rfl] at hyK he
                subst he
                obtain ⟨_, _, m1, _, _, _, _⟩ := un_facts hyE
                rw [hyK] at m1
                have e1 : low 10 = 0 := rfl
                rw [e1] at m1
                exact box7_yes gR _ A l c q x hx h7 hnq hE hq hl6 hU hlc hA g F Ts hA64 fuel hf IH y hy hyE hyK (unN y).toNat (by omega) _ rfl hle w henv hr
              · rw [if_neg hle]
                exact box7_no gR _ A l c q x hx h7 hnq hE hq hl6 hU hlc hA g F Ts (fun h' e => by rw [hh] at e; injection e with e; subst e; omega) w henv hr
          · rw [h5]
            cases hh : hdR l 5 q with
            | none => exact box5_no gR _ A l c q x hx h5 hnq hE hq hl6 hU hlc hA g F Ts (fun h e => by rw [hh] at e; cases e) w henv hr
            | some h =>
              simp only
              by_cases hle : h.2.2 + h.2.1 ≤ l.length
              · rw [if_pos hle]
                obtain ⟨y, hy, hyE, hyK, he⟩ := hdR_75 (.inr rfl) hh
                rw [if_neg (by decide)] at hyK he
                subst he
                obtain ⟨_, _, m1, _, _, _, _⟩ := un_facts hyE
                rw [hyK] at m1
                have e1 : low 11 = 0 := rfl
                rw [e1] at m1
                have ea : unN y / 128 = ((unN y / 128).toNat : Int) := by omega
                have eb : unN y % 128 = ((unN y % 128).toNat : Int) := by omega
                have en : unN y = ((unN y).toNat : Int) := by omega
                refine box5_yes gR _ A l c q x hx h5 hnq hE hq hl6 hU hlc hA g F Ts hA64 fuel hf IH y hy hyE hyK (unN y).toNat en (unN y / 128).toNat (unN y % 128).toNat (by rw [← en]; exact ea) (by rw [← en]; exact eb) _ ?_ hle w henv hr
                rw [← ea]
              · rw [if_neg hle]
                exact box5_no gR _ A l c q x hx h5 hnq hE hq hl6 hU hlc hA g F Ts (fun h' e => by rw [hh] at e; injection e with e; subst e; omega) w henv hr
          · rw [h9, hdR_9]
            simp only
            by_cases hle : q + 2 ≤ l.length
            · rw [if_pos hle]
              exact box9_yes gR _ A l c q x hx h9 hnq hE hq hl6 hU hlc hA g F Ts hA64 fuel hf IH _ rfl hle w henv hr
            · rw [if_neg hle]
              exact box9_no gR _ A l c q x hx h9 hnq hE hq hl6 (by omega) w hr
        · rw [if_neg hnq]
          exact term_bad3 gR _ A l c q x _ _ _ hx rfl rfl rfl hE (by rcases hbx with h | h | h <;> omega) hnq w hr
      · rw [if_neg hbx]
        exact term_bad2 gR _ A l c q x _ _ _ hx rfl rfl rfl hE (by unfold leafK at hlf; unfold boxK at hbx; omega) w hr
    · rw [if_pos hE]
      exact term_bad1 gR _ A l c q x _ _ _ hx rfl rfl rfl hE w hr
end Go.Proofs.Ytfcialleekfjmaa.Fl
