/- Numbers with words, in a row of our own; the words lie in blocks of their own. Plain memory. -/
import Derived.Test.YtnanacokclcbfaaEnts
import Derived.Test.YtnanacokclcbfaaArLent
namespace Go.Proofs.Ytnanacokclcbfaa.Ar
open Go.RowKit K
set_option linter.unusedVariables false
set_option linter.unusedSimpArgs false

theorem Reads.take_ {w : World} {B size n : Nat} {A : Option Addr} {xs : List Value} (h : Reads w B size A n xs) {k : Nat} (hk : k ≤ n) : Reads w B size A k (xs.take (k * size)) := by
  refine ⟨by rw [List.length_take, h.1]; have := Nat.mul_le_mul_right size hk; omega, fun h0 => ?_⟩
  obtain ⟨ad, e, hb, hc⟩ := h.2 (by omega)
  exact ⟨ad, e, hb, fun j u hu => hc j u (by
    rw [List.getElem?_take] at hu
    split at hu
    · exact hu
    · cases hu)⟩
/-- Words that others hold, in a block among G. -/
def Rd (w : World) (G : Nat → Prop) (v : Value) (ws : List Int) : Prop :=
  ∃ A c, v = .slice A ws.length c ∧ Reads w w.heap.size 1 A ws.length (wds ws) ∧ ∀ ad, A = some ad → 0 < ws.length → G ad.block
section
variable {w w' w1 w2 w0 : World} {G G' F : Nat → Prop} {v v1 : Value} {ws : List Int} {H : Held} {xs ys : List Value} {B : Bks} {g all n m c : Nat} {A : Option Addr}
theorem Rd.keep (h : Rd w G v ws) (hk : Keep F w w') (hd : ∀ k, G k → ¬ F k) : Rd w' G v ws := by
  obtain ⟨A, c, rfl, hr, hg⟩ := h
  refine ⟨A, c, rfl, ⟨hr.1, fun hn => ?_⟩, hg⟩
  obtain ⟨ad, e, hb, hc⟩ := hr.2 hn
  refine ⟨ad, e, Nat.lt_of_lt_of_le hb hk.size, fun j u hu => ?_⟩
  rw [hk.cell (p := ad.add j) (by rw [block_of_add]; exact hb) (by rw [block_of_add]; exact hd _ (hg ad e hn))]
  exact hc j u hu
theorem Rd.mono (h : Rd w G v ws) (hG : ∀ k, G k → G' k) : Rd w G' v ws := by
  obtain ⟨A, c, e, hr, hg⟩ := h
  exact ⟨A, c, e, hr, fun ad ea hn => hG _ (hg ad ea hn)⟩
theorem Rd.later (h : Rd w G v ws) (hb : Below w.heap.size w w') : Rd w' G v ws := h.keep (Keep.new (F := fun _ => False) hb) (fun _ _ h => h)
theorem Rd.of_own {base : Nat} (h : w.ownsRow base 68 1 v ws.length (wds ws)) (hG : ∀ r, v.ownBlock = some r → G r) : Rd w G v ws := by
  obtain ⟨A, c, rfl, _, _⟩ := ownsRow_form h
  exact ⟨A, c, rfl, Reads.of_own h, fun ad e hn => hG _ (by subst e; rfl)⟩
inductive HVs (w : World) (G : Nat → Prop) : Held → List Value → Prop
  | nil : HVs w G [] []
  | cons {p : Int × List Int} {v : Value} {H : Held} {xs : List Value} : Rd w G v p.2 → HVs w G H xs → HVs w G (p :: H) (.int .i64 p.1 :: v :: xs)
theorem HVs.keep (h : HVs w G H xs) (hk : Keep F w w') (hd : ∀ k, G k → ¬ F k) : HVs w' G H xs := by
  induction h with
  | nil => exact .nil
  | cons hr _ ih => exact .cons (hr.keep hk hd) ih
theorem HVs.mono (h : HVs w G H xs) (hG : ∀ k, G k → G' k) : HVs w G' H xs := by
  induction h with
  | nil => exact .nil
  | cons hr _ ih => exact .cons (hr.mono hG) ih
theorem HVs.later (h : HVs w G H xs) (hb : Below w.heap.size w w') : HVs w' G H xs := h.keep (Keep.new (F := fun _ => False) hb) (fun _ _ h => h)
theorem HVs.len (h : HVs w G H xs) : xs.length = H.length * 2 := by
  induction h with
  | nil => rfl
  | cons _ _ ih => simp [ih]; omega
theorem HVs.one (h : HVs w G H xs) : ∀ u ∈ xs, u.oneCell' = true := by
  induction h with
  | nil => simp
  | cons hr _ ih =>
    intro u hu
    simp only [List.mem_cons] at hu
    rcases hu with rfl | rfl | hu
    · rfl
    · obtain ⟨A, c, rfl, _⟩ := hr
      rfl
    · exact ih u hu
theorem HVs.append {H' : Held} (h : HVs w G H xs) (h' : HVs w G H' ys) : HVs w G (H ++ H') (xs ++ ys) := by
  induction h with
  | nil => exact h'
  | cons hr _ ih => exact .cons hr ih
theorem HVs.take (h : HVs w G H xs) (j : Nat) : HVs w G (H.take j) (xs.take (j * 2)) := by
  induction h generalizing j with
  | nil => simp; exact .nil
  | cons hr _ ih =>
    cases j with
    | zero => simp; exact .nil
    | succ j =>
      rw [show (j + 1) * 2 = j * 2 + 1 + 1 by omega]
      exact .cons hr (ih j)
theorem HVs.drop (h : HVs w G H xs) (j : Nat) : HVs w G (H.drop j) (xs.drop (j * 2)) := by
  induction h generalizing j with
  | nil => simp; exact .nil
  | cons hr ht ih =>
    cases j with
    | zero => exact .cons hr ht
    | succ j =>
      rw [show (j + 1) * 2 = j * 2 + 1 + 1 by omega]
      exact ih j
theorem HVs.at_ {j : Nat} {p : Int × List Int} (h : HVs w G H xs) (hj : H[j]? = some p) : ∃ v, xs[j * 2]? = some (.int .i64 p.1) ∧ xs[j * 2 + 1]? = some v ∧ Rd w G v p.2 := by
  induction h generalizing j with
  | nil => simp at hj
  | cons hr ht ih =>
    cases j with
    | zero =>
      simp at hj
      subst hj
      exact ⟨_, rfl, rfl, hr⟩
    | succ j =>
      rw [show (j + 1) * 2 = j * 2 + 1 + 1 by omega]
      exact ih hj
theorem HVs.set {j : Nat} {p : Int × List Int} (h : HVs w G H xs) (hj : H[j]? = some p) (hv : Rd w G v ws) : HVs w G (H.set j (p.1, ws)) (xs.set (j * 2 + 1) v) := by
  induction h generalizing j with
  | nil => simp at hj
  | cons hr ht ih =>
    cases j with
    | zero =>
      simp at hj
      subst hj
      exact .cons (p := (_, ws)) hv ht
    | succ j =>
      rw [show (j + 1) * 2 + 1 = j * 2 + 1 + 1 + 1 by omega]
      exact .cons hr (ih hj)

/-- An arena; beside it numbers with words, in a row of our own, the words in blocks G; all of it made behind w0. -/
def SS (w0 w : World) (g all n : Nat) (B : Bks) (G : Nat → Prop) (v : Value) (H : Held) : Prop :=
  ∃ F, AR w F g all n B ∧ (∀ k, F k → w0.heap.size ≤ k ∧ ¬ G k) ∧ (∀ k, G k → w0.heap.size ≤ k ∧ k < w.heap.size) ∧ Below w0.heap.size w0 w ∧ (∃ xs, HVs w G H xs ∧ w.ownsRow w0.heap.size 62 2 v H.length xs) ∧ ∀ r, v.ownBlock = some r → ¬ F r ∧ ¬ G r
theorem SS.start {Wn : World} (h : AR Wn (fun k => w0.heap.size ≤ k ∧ k < Wn.heap.size) g all 0 []) (hb : Below w0.heap.size w0 Wn) : SS w0 Wn g all 0 [] (fun _ => False) (.slice none 0 0) [] :=
  ⟨_, h, fun k hk => ⟨hk.1, fun h => h⟩, fun k hk => hk.elim, hb, ⟨[], .nil, World.ownsRow_nil _ _ _ _⟩, fun r hr => by simp [Value.ownBlock] at hr⟩
theorem SS.arena (h : SS w0 w g all n B G v H) : ∃ F, AR w F g all n B ∧ (∀ k, F k → w0.heap.size ≤ k ∧ ¬ G k ∧ v.ownBlock ≠ some k) ∧ ∀ n' B' w', Moved w F g all n' B' w' → SS w0 w' g all n' B' G v H := by
  obtain ⟨F, hA, hF, hG, hb, ⟨xs, hx, ho⟩, hv⟩ := h
  refine ⟨F, hA, fun k hk => ⟨(hF k hk).1, (hF k hk).2, fun e => (hv k e).1 hk⟩, fun n' B' w' hm => ?_⟩
  obtain ⟨F', h1, h2, h3⟩ := hm
  have hs := hb.size
  have hz := h3.size
  refine ⟨F', h1, fun k hk => ?_, fun k hk => ⟨(hG k hk).1, Nat.lt_of_lt_of_le (hG k hk).2 hz⟩, h3.below hb hs (fun i hi hf => by have := (hF i hf).1; omega), ⟨xs, hx.keep h3 (fun k hg hf => (hF k hf).2 hg), ownsRow_keep ho h3 (fun r hr => (hv r hr).1)⟩, fun r hr => ⟨fun hf => ?_, (hv r hr).2⟩⟩
  · rcases h2 k hk with h | h
    · exact hF k h
    · exact ⟨by omega, fun hg => by have := (hG k hg).2; omega⟩
  · rcases h2 r hf with h | h
    · exact (hv r hr).1 h
    · have := (ho.lt r hr).2; omega
theorem SS.keep (h : SS w0 w g all n B G v H) (hk : Keep F w w') (hF : ∀ k, F k → w.heap.size ≤ k) : SS w0 w' g all n B G v H := by
  obtain ⟨F1, hA, hF1, hG, hb, ⟨xs, hx, ho⟩, hv⟩ := h
  have hz := hk.size
  exact ⟨F1, hA.keep hk (fun r hr hf => by have := hA.lt r hr; have := hF r hf; omega), hF1, fun k hg => ⟨(hG k hg).1, Nat.lt_of_lt_of_le (hG k hg).2 hz⟩, hk.below hb hb.size (fun i hi hf => by have := hF i hf; have := hb.size; omega), ⟨xs, hx.keep hk (fun k hg hf => by have := (hG k hg).2; have := hF k hf; omega), ownsRow_keep ho hk (fun r hr hf => by have := (ho.lt r hr).2; have := hF r hf; omega)⟩, hv⟩
theorem SS.later (h : SS w0 w g all n B G v H) (hb : Below w.heap.size w w') : SS w0 w' g all n B G v H := h.keep (F := fun _ => False) (Keep.new hb) (fun _ h => h.elim)
theorem SS.drewN (h : SS w0 w g all n B G v H) (d : Nat) : SS w0 (w.drewN d) g all n B G v H := h.later ⟨rfl, rfl, rfl, Nat.le_refl _, fun _ _ => rfl⟩
theorem SS.more {n' : Nat} (h : SS w0 w g all n B G v H) (hn : n ≤ n') : SS w0 w g all n' B G v H := by
  obtain ⟨F, hA, r⟩ := h
  exact ⟨F, hA.more hn, r⟩
theorem SS.below (h : SS w0 w g all n B G v H) : Below w0.heap.size w0 w := by obtain ⟨F, _, _, _, hb, _⟩ := h; exact hb
theorem SS.form (h : SS w0 w g all n B G v H) : ∃ A c, v = .slice A H.length c ∧ H.length ≤ c ∧ c ≤ maxLen := by
  obtain ⟨F, _, _, _, _, ⟨xs, hx, ho⟩, _⟩ := h
  exact ownsRow_form ho
theorem SS.ok (h : SS w0 w g all n B G v H) : LenOk B ∧ used B ≤ all ∧ all ≤ 16777216 ∧ B.length ≤ n := by
  obtain ⟨F, ⟨bm, D, fl, fg, fm, hB, hM, hDm, q1, q2, q3, q4⟩, _⟩ := h
  exact ⟨q4, q2, q1, q3⟩
/-- What stands at j. -/
theorem SS.at_ {j : Nat} {p : Int × List Int} (h : SS w0 w g all n B G v H) (hj : H[j]? = some p) :
    ∃ b c A1 c1, v = .slice (some ⟨b, 0, none⟩) H.length c ∧ H.length ≤ c ∧ c ≤ maxLen ∧ w0.heap.size ≤ b ∧ b < w.heap.size ∧ w.cell? ⟨b, j * 2, none⟩ = some (.int .i64 p.1) ∧ w.cell? ⟨b, j * 2 + 1, none⟩ = some (.slice A1 p.2.length c1) ∧ Reads w w.heap.size 1 A1 p.2.length (wds p.2) := by
  obtain ⟨F, _, _, _, _, ⟨xs, hx, ho⟩, _⟩ := h
  have hl := (List.getElem?_eq_some_iff.1 hj).1
  obtain ⟨b, c, hv, h1, h2⟩ := ho.form (by omega)
  subst hv
  obtain ⟨A, c', hf, l1, l2⟩ := ownsRow_form ho
  injection hf with e1 _ e2
  subst e1 e2
  obtain ⟨v1, x0, x1, A1, c1, rfl, hr, _⟩ := hx.at_ hj
  have hc := ho.cells (g := b) rfl
  have g0 := hc _ _ x0
  have g1 := hc _ _ x1
  rw [add_zero] at g0 g1
  exact ⟨b, c, A1, c1, rfl, l1, l2, (ho.lt b rfl).1, h2, g0, g1, hr⟩
/-- Words of our own join those that are held. -/
theorem SS.add (h : SS w0 w g all n B G v H) (hb : Below w.heap.size w w') (ho : w'.ownsRow w.heap.size 68 1 v1 ws.length (wds ws)) :
    SS w0 w' g all n B (fun k => G k ∨ v1.ownBlock = some k) v H ∧ Rd w' (fun k => G k ∨ v1.ownBlock = some k) v1 ws := by
  have hs := h.below.size
  obtain ⟨F, hA, hF, hG, hb0, ⟨xs, hx, ho'⟩, hv⟩ := h.later hb
  have hA0 := h
  obtain ⟨F0, hA0, hF0, hG0, _, ⟨xs0, hx0, ho0⟩, hv0⟩ := hA0
  have k1 : Keep (fun _ => False) w w' := Keep.new hb
  refine ⟨⟨F0, hA0.keep k1 (fun _ _ h => h), fun k hk => ⟨(hF0 k hk).1, fun hg => ?_⟩, fun k hg => ?_, hb0, ⟨xs0, (hx0.later hb).mono (fun k hk => .inl hk), ownsRow_keep ho0 k1 (fun _ _ h => h)⟩, fun r hr => ⟨(hv0 r hr).1, fun hg => ?_⟩⟩, Rd.of_own ho (fun r hr => .inr hr)⟩
  · rcases hg with h | h
    · exact (hF0 k hk).2 h
    · have := (ho.lt k h).1; have := hA0.lt k hk; omega
  · rcases hg with h | h
    · exact ⟨(hG0 k h).1, Nat.lt_of_lt_of_le (hG0 k h).2 hb.size⟩
    · exact ⟨Nat.le_trans hs (ho.lt k h).1, (ho.lt k h).2⟩
  · rcases hg with h | h
    · exact (hv0 r hr).2 h
    · have := (ho.lt r h).1; have := (ho0.lt r hr).2; omega
/-- Another row takes the place of the one that was. -/
theorem SS.turn {H' : Held} (h : SS w0 w g all n B G v H) (hb : Below w.heap.size w w') (hx : HVs w' G H' ys) (ho : w'.ownsRow w.heap.size 62 2 v1 H'.length ys) : SS w0 w' g all n B G v1 H' := by
  have hs := h.below.size
  have h' : Below w0.heap.size w0 w' := h.below.trans (hb.mono hs)
  obtain ⟨F, hA, hF, hG, _, _, _⟩ := h
  refine ⟨F, hA.keep (F := F) (G := fun _ => False) (Keep.new hb) (fun _ _ h => h), hF, fun k hk => ⟨(hG k hk).1, Nat.lt_of_lt_of_le (hG k hk).2 hb.size⟩, h', ⟨ys, hx, ownsRow_base ho (fun r hr => Nat.le_trans hs (ho.lt r hr).1)⟩, fun r hr => ⟨fun hf => ?_, fun hg => ?_⟩⟩
  · have := hA.lt r hf; have := (ho.lt r hr).1; omega
  · have := (hG r hg).2; have := (ho.lt r hr).1; omega
theorem SS.reads (h : SS w0 w g all n B G (.slice A m c) H) : m = H.length ∧ m ≤ c ∧ ∃ xs, HVs w G H xs ∧ Reads w w.heap.size 2 A m xs := by
  obtain ⟨F, _, _, _, _, ⟨xs, hx, ho⟩, _⟩ := h
  obtain ⟨A', c', hf, l1, l2⟩ := ownsRow_form ho
  injection hf with e1 e2 e3
  subst e1 e2 e3
  exact ⟨rfl, l1, xs, hx, Reads.of_own ho⟩
theorem infoHeld : (Try.prog.info? 62).map (fun i => (i.zero, i.size, i.bytes)) = some (some (.agg #[.int .i64 0, .slice none 0 0]), 2, 32) := by kernel_rfl
theorem hlit_own (w : World) (x : World) (hb : Below w.heap.size w x) : (x.alloc (.cells #[] 62)).ownsRow w.heap.size 62 2 (.slice (some ⟨x.heap.size, 0, none⟩) 0 0) 0 [] :=
  ownsRow_base (World.ownsRow_lit (base := x.heap.size) (e := 62) (size := 2) x #[] 0 (Nat.le_refl _) (Nat.zero_le _) (by simp)) (fun r hr => by
    have : r = x.heap.size := by simpa [Value.ownBlock] using hr.symm
    rw [this]; exact hb.size)
/-- append([]held{}, all...): the run, told ahead. -/
theorem SS.copy (h : SS w0 w g all n B G (.slice A m c) H) (hl : m ≤ 60000) :
    ∃ A1 c1 w1, (Builtin.append_ #[56, 56] 56 #[.slice (some ⟨w.heap.size, 0, none⟩) 0 0, .slice A m c]).run Try.prog (w.alloc (.cells #[] 62)) = .ok (.slice A1 m c1) w1 ∧ Below w.heap.size w w1 ∧ SS w0 w1 g all n B G (.slice A1 m c1) H ∧ ∀ ad, A1 = some ad → w.heap.size ≤ ad.block := by
  obtain ⟨rfl, lc, xs, hx, hr⟩ := h.reads
  obtain ⟨i0, hi, hz0, hz1, hz2⟩ := info_parts infoHeld
  have hba : Below w.heap.size w (w.alloc (.cells #[] 62)) := bal (Below.refl _ _) _
  obtain ⟨v1, w1, run1, o1, gr1, at1⟩ := run_append_any (P := Try.prog) _ w.heap.size 56 56 62 i0 _ 2 32 Try.underlying56 hi hz0 hz1 hz2 rfl (by decide) (.slice (some ⟨w.heap.size, 0, none⟩) 0 0) 0 [] (hlit_own w w (Below.refl _ _)) w.heap.size A H.length c xs (hr.below hba)
    hx.one (by unfold maxLen; omega) (by omega) hba.size
  rw [Nat.zero_add, List.nil_append] at o1
  obtain ⟨A1, c1, rfl, _, _⟩ := ownsRow_form o1
  have hb1 : Below w.heap.size w w1 := hba.grown gr1 hba.size (fun r hr2 => by simp [Value.ownBlock] at hr2; omega)
  exact ⟨A1, c1, w1, run1, hb1, h.turn hb1 (hx.later hb1) o1, fun ad e => (o1.lt ad.block (by subst e; rfl)).1⟩
/-- An entry is taken out: the two appends' runs, told ahead. -/
theorem SS.pull (h : SS w0 w g all n B G (.slice A m c) H) {k : Nat} (hk : k < m) (hl : m ≤ 60000) :
    ∃ v1 w1 g2 c2 w2, (Builtin.append_ #[56, 56] 56 #[.slice (some ⟨w.heap.size, 0, none⟩) 0 0, .slice A k c]).run Try.prog (w.drew.alloc (.cells #[] 62)) = .ok v1 w1 ∧ Below w.heap.size w w1 ∧
      (Builtin.append_ #[56, 56] 56 #[v1, .slice (if c = k + 1 then A else A.map (·.add ((k + 1) * 2))) (m - (k + 1)) (c - (k + 1))]).run Try.prog w1 = .ok (.slice g2 (m - 1) c2) w2 ∧ Below w.heap.size w w2 ∧
      SS w0 w2 g all n B G (.slice g2 (m - 1) c2) (H.take k ++ H.drop (k + 1)) := by
  obtain ⟨rfl, lc, xs, hx, hr⟩ := h.reads
  obtain ⟨i0, hi, hz0, hz1, hz2⟩ := info_parts infoHeld
  have hba : Below w.heap.size w (w.drew.alloc (.cells #[] 62)) := bal (below_drew (Below.refl _ _)) _
  obtain ⟨v1, w1, run1, o1, gr1, at1⟩ := run_append_any (P := Try.prog) _ w.heap.size 56 56 62 i0 _ 2 32 Try.underlying56 hi hz0 hz1 hz2 rfl (by decide) (.slice (some ⟨w.heap.size, 0, none⟩) 0 0) 0 [] (hlit_own w w.drew (below_drew (Below.refl _ _))) w.heap.size A k c (xs.take (k * 2)) (Reads.take_ (hr.below hba) (by omega))
    (fun u hu => hx.one u (List.mem_of_mem_take hu)) (by unfold maxLen; omega) (by omega) hba.size
  rw [Nat.zero_add, List.nil_append] at o1
  have hb1 : Below w.heap.size w w1 := hba.grown gr1 hba.size (fun r hr2 => by simp [Value.ownBlock] at hr2; omega)
  obtain ⟨v2, w2, run2, o2, gr2, at2⟩ := run_append_any (P := Try.prog) w1 w.heap.size 56 56 62 i0 _ 2 32 Try.underlying56 hi hz0 hz1 hz2 rfl (by decide) v1 k _ o1 w.heap.size (if c = k + 1 then A else A.map (·.add ((k + 1) * 2))) (H.length - (k + 1)) (c - (k + 1)) (xs.drop ((k + 1) * 2)) ((hr.below hb1).cut (by omega) lc)
    (fun u hu => hx.one u (List.mem_of_mem_drop hu)) (by unfold maxLen; omega) (by omega) hb1.size
  have hb2 : Below w.heap.size w w2 := hb1.grown gr2 hb1.size (fun r hr2 => (o1.lt r hr2).1)
  have e : (H.take k ++ H.drop (k + 1)).length = k + (H.length - (k + 1)) := by simp; omega
  have e2 : k + (H.length - (k + 1)) = H.length - 1 := by omega
  have hx2 : HVs w2 G (H.take k ++ H.drop (k + 1)) (xs.take (k * 2) ++ xs.drop ((k + 1) * 2)) := ((hx.later hb2).take k).append ((hx.later hb2).drop (k + 1))
  rw [← e] at o2
  have hS := h.turn hb2 hx2 o2
  rw [e, e2] at o2
  obtain ⟨g2, c2, rfl, _, _⟩ := ownsRow_form o2
  exact ⟨v1, w1, g2, c2, w2, run1, hb1, run2, hb2, hS⟩
/-- append(all, held{n, l}): the run, told ahead. -/
theorem SS.push (h : SS w0 w g all n B G (.slice A m c) H) {A1 : Option Addr} {c1 : Nat} (hr : Rd w G (.slice A1 ws.length c1) ws) (N : Int) (hl : m ≤ 60000) :
    ∃ g1 c2 w2, (Builtin.append_ #[56, 56] 56 #[.slice A m c, .slice (some ⟨w.heap.size, 0, none⟩) 1 1]).run Try.prog (w.alloc (.cells #[.int .i64 N, .slice A1 ws.length c1] 62)) = .ok (.slice (some ⟨g1, 0, none⟩) (m + 1) c2) w2 ∧
      SS w0 w2 g all n B G (.slice (some ⟨g1, 0, none⟩) (m + 1) c2) (H ++ [(N, ws)]) := by
  have hs := h.below.size
  have hbe := h.below
  obtain ⟨rfl, _⟩ := h.reads
  obtain ⟨F, hA, hF, hG, _, ⟨xs, hx, ho⟩, hv⟩ := h
  obtain ⟨W1, hW1⟩ : ∃ z, w.alloc (.cells #[.int .i64 N, .slice A1 ws.length c1] 62) = z := ⟨_, rfl⟩
  have hba : Below w.heap.size w W1 := by rw [← hW1]; exact bal (Below.refl _ _) _
  have hX : Blk W1 w.heap.size 62 #[.int .i64 N, .slice A1 ws.length c1] := by rw [← hW1]; exact Blk.new _ _ _
  have hz : W1.heap.size = w.heap.size + 1 := by rw [← hW1]; simp
  have ho1 : W1.ownsRow w0.heap.size 62 2 (.slice A H.length c) H.length xs := ownsRow_below ho hba (fun r hr => (ho.lt r hr).2)
  obtain ⟨i0, hi, hz0, hz1, hz2⟩ := info_parts infoHeld
  obtain ⟨v2, w2, run2, o2, gr2, _, at2⟩ := run_append_own_at (P := Try.prog) W1 w0.heap.size 56 56 62 i0 _ 2 32 Try.underlying56 hi hz0 hz1 hz2 rfl (by decide) (.slice A H.length c) H.length xs ho1
    ⟨w.heap.size, 0, none⟩ 1 1 [.int .i64 N, .slice A1 ws.length c1] rfl (fun j u hj => by
    rcases j with _ | _ | j
    · simp at hj; subst hj; simpa [Addr.add] using (hX.cell 0)
    · simp at hj; subst hj; simpa [Addr.add] using (hX.cell 1)
    · simp at hj) (by simp [Value.oneCell']) (by unfold maxLen; omega) (by omega) (by omega)
  obtain ⟨g1, c2, rfl, _, _⟩ := o2.form (by omega)
  have kk : Keep (fun k => (Value.slice A H.length c).ownBlock = some k) w w2 := ((show Keep (fun _ => False) w W1 from Keep.new hba).mono (fun _ _ (h : False) => h.elim)).grown gr2 (fun k hk => .inl hk)
  have hz2 := kk.size
  refine ⟨g1, c2, w2, by rw [hW1]; exact run2, F, hA.keep kk (fun r hr e => (hv r e).1 hr), hF, fun k hk => ⟨(hG k hk).1, Nat.lt_of_lt_of_le (hG k hk).2 hz2⟩, kk.below hbe hs (fun i hi e => by have := (ho.lt i e).1; omega), ⟨xs ++ [.int .i64 N, .slice A1 ws.length c1], ?_, by simpa using o2⟩, fun r hr => ?_⟩
  · exact (hx.keep kk (fun k hk e => (hv k e).2 hk)).append (.cons (p := (N, ws)) (hr.keep kk (fun k hk e => (hv k e).2 hk)) .nil)
  · rcases at2 with e | e
    · exact hv r (by rw [← e]; exact hr)
    · rw [e] at hr
      injection hr with hr
      refine ⟨fun hf => ?_, fun hg => ?_⟩
      · have := hA.lt r hf; omega
      · have := (hG r hg).2; omega
/-- Words are put into an entry. -/
theorem SS.put {b j : Nat} {p : Int × List Int} (h : SS w0 w g all n B G (.slice (some ⟨b, 0, none⟩) m c) H) (hj : H[j]? = some p) (hr : Rd w G v ws) : SS w0 (w.setCell ⟨b, j * 2 + 1, none⟩ v) g all n B G (.slice (some ⟨b, 0, none⟩) m c) (H.set j (p.1, ws)) ∧ w.frozen? ⟨b, j * 2 + 1, none⟩ = false ∧ ∃ u, w.cell? ⟨b, j * 2 + 1, none⟩ = some u := by
  have hs := h.below.size
  have hbe := h.below
  have hlj := (List.getElem?_eq_some_iff.1 hj).1
  obtain ⟨rfl, _⟩ := h.reads
  obtain ⟨F, hA, hF, hG, _, ⟨xs, hx, ho⟩, hv⟩ := h
  obtain ⟨hv1, hv2⟩ := hv b rfl
  have hb0 := (ho.lt b rfl).1
  have kk : Keep (fun k => k = b) w (w.setCell ⟨b, j * 2 + 1, none⟩ v) := Keep.setCell (F := fun k => k = b) (p := ⟨b, j * 2 + 1, none⟩) (Keep.refl _ _) (.inl rfl) _
  have hz2 := kk.size
  have hcur : ∃ cur, Blk w b 62 cur := by
    rcases ho.2 with ⟨h', _⟩ | ⟨g', cap', cur, hv, _, hg', _⟩
    · cases h'
    have hg2 : b = g' := by injection hv with h5; injection h5 with h5; injection h5
    subst hg2
    exact ⟨cur, hg'⟩
  obtain ⟨cur, hcur⟩ := hcur
  obtain ⟨u, _, x1, _⟩ := hx.at_ hj
  have hc := ho.cells (g := b) rfl _ _ x1
  rw [add_zero] at hc
  refine ⟨⟨F, hA.keep kk (fun r hr e => hv1 (e ▸ hr)), hF, fun k hk => ⟨(hG k hk).1, Nat.lt_of_lt_of_le (hG k hk).2 hz2⟩, kk.below hbe hs (fun i hi e => by subst e; omega), ⟨xs.set (j * 2 + 1) v, ?_, ?_⟩, hv⟩, hcur.frozen _, _, hc⟩
  · exact HVs.set (hx.keep kk (fun k hk e => hv2 (e ▸ hk))) hj (hr.keep kk (fun k hk e => hv2 (e ▸ hk)))
  · rw [List.length_set]; exact (ho.stored (j * 2 + 1) v).1
end
end Go.Proofs.Ytnanacokclcbfaa.Ar
