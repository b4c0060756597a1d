/- What a round of LinhashBand keeps: buckets, and the row of all items beside them. -/
import Derived.Test.YtjipncpplpfobaaStand
import Derived.Test.YtjipncpplpfobaaOpenTrips
import Derived.Test.YtjipncpplpfobaaPick
namespace Go.Proofs.Ytjipncpplpfobaa.Lb
open Go.RowKit K Hs
set_option linter.unusedVariables false
set_option linter.unusedSimpArgs false

def X8 (w : World) (A8 : Option Addr) (n8 c8 : Nat) : Nat → Prop := fun k => k < w.heap.size ∨ (Value.slice A8 n8 c8).ownBlock = some k
def BI (w : World) (g least : Nat) (L : List (List It)) (all : List It) (A8 : Option Addr) (n8 c8 : Nat) (wr : World) : Prop :=
  ∃ G gr cap, LB wr G g least (n8 : Int) gr cap L ∧ (∀ k, G k → w.heap.size ≤ k) ∧ Below w.heap.size w wr ∧ wr.ownsRow w.heap.size 54 2 (.slice A8 n8 c8) n8 (itL all) ∧ (∀ r, (Value.slice A8 n8 c8).ownBlock = some r → ¬ G r) ∧ n8 = all.length
section
variable {w wr w' w2 : World} {g least n8 c8 n' c' : Nat} {L L' : List (List It)} {all all' : List It} {A8 A' : Option Addr} {cnt : Int}
theorem BI.st (h : BI w g least L all A8 n8 c8 wr) : St (X8 w A8 n8 c8) wr g least (n8 : Int) L wr := by
  obtain ⟨G, gr, cap, hL, hG, hb, hr, h5, hn⟩ := h
  refine ⟨Keep.refl _ _, fun k hk => ?_, G, gr, cap, hL, fun k hk hx => ?_⟩
  · rcases hk with h | h
    · have := hb.size; omega
    · exact (hr.lt k h).2
  · rcases hx with h | h
    · have := hG k hk; omega
    · exact h5 k h hk
theorem BI.after (h : BI w g least L all A8 n8 c8 wr) (hs : St (X8 w A8 n8 c8) wr g least cnt L' w') : Below w.heap.size w w' ∧ w'.ownsRow w.heap.size 54 2 (.slice A8 n8 c8) n8 (itL all) := by
  obtain ⟨G, gr, cap, hL, hG, hb, hr, h5, hn⟩ := h
  refine ⟨hb.trans (hs.1.to_below hb.size (fun i _ hi => ?_)), ownsRow_keep hr hs.1 (fun r hr2 hx => hx (.inr hr2))⟩
  rcases Nat.lt_or_ge i w.heap.size with h | h
  · exact absurd (.inl h) hi
  · exact h
theorem BI.mk' (h : BI w g least L all A8 n8 c8 wr) (hs : St (X8 w A8 n8 c8) wr g least (n' : Int) L' w') (hk : Keep (fun k => (Value.slice A8 n8 c8).ownBlock = some k) w' w2) (hr : w2.ownsRow w.heap.size 54 2 (.slice A' n' c') n' (itL all'))
    (hat : ∀ r, (Value.slice A' n' c').ownBlock = some r → (Value.slice A8 n8 c8).ownBlock = some r ∨ w'.heap.size ≤ r) (hn : n' = all'.length) : BI w g least L' all' A' n' c' w2 := by
  obtain ⟨hb, hr8⟩ := h.after hs
  obtain ⟨k1, hX, G, gr, cap, hL, hG⟩ := hs
  refine ⟨G, gr, cap, hL.keep hk (fun r hr2 h8 => hG r hr2 (.inr h8)), fun k hk2 => ?_, hk.below hb hb.size (fun i hi h8 => by have := (hr8.lt i h8).1; omega), hr, fun r hr2 hg => ?_, hn⟩
  · rcases Nat.lt_or_ge k w.heap.size with h | h
    · exact absurd (.inl h) (hG k hk2)
    · exact h
  · rcases hat r hr2 with h | h
    · exact hG r hg (.inr h)
    · have := hL.1 r hg; omega
theorem BI.same (h : BI w g least L all A8 n8 c8 wr) (hs : St (X8 w A8 n8 c8) wr g least (n8 : Int) L' w') : BI w g least L' all A8 n8 c8 w' := by
  have hn := h.choose_spec.choose_spec.choose_spec.2.2.2.2.2
  exact h.mk' hs (Keep.refl _ _) (h.after hs).2 (fun r hr => .inl hr) hn
theorem BI.start {W1 : World} {n : Nat} {gr cap : Nat} (h : LB W1 (fun k => w.heap.size ≤ k ∧ k < W1.heap.size) g n 0 gr cap (List.replicate n [])) (hb : Below w.heap.size w W1) : BI w g n (List.replicate n []) [] none 0 0 W1 :=
  ⟨_, gr, cap, h, fun k hk => hk.1, hb, World.ownsRow_nil _ _ _ _, fun r hr => by simp [Value.ownBlock] at hr, rfl⟩
theorem BI.len (h : BI w g least L all A8 n8 c8 wr) : n8 = all.length := h.choose_spec.choose_spec.choose_spec.2.2.2.2.2
theorem BI.below (h : BI w g least L all A8 n8 c8 wr) : Below w.heap.size w wr := h.choose_spec.choose_spec.choose_spec.2.2.1
theorem BI.row (h : BI w g least L all A8 n8 c8 wr) : wr.ownsRow w.heap.size 54 2 (.slice A8 n8 c8) n8 (itL all) := h.choose_spec.choose_spec.choose_spec.2.2.2.1
theorem BI.drewN (h : BI w g least L all A8 n8 c8 wr) (d : Nat) : BI w g least L all A8 n8 c8 (wr.drewN d) := h.same (h.st.later ⟨rfl, rfl, rfl, Nat.le_refl _, fun _ _ => rfl⟩)
/-- An item is put behind the others: the append's run, told ahead. -/
theorem BI.push (h : BI w g least L all A8 n8 c8 wr) {x : It} (hs : St (X8 w A8 n8 c8) wr g least ((n8 : Int) + 1) L' w') (hl : n8 ≤ 60000) :
    ∃ g1 c1 w2, (Builtin.append_ #[43, 43] 43 #[.slice A8 n8 c8, .slice (some ⟨w'.heap.size, 0, none⟩) 1 1]).run Try.prog (w'.alloc (.cells #[.int .u32 x.1, .int .i64 x.2] 54)) = .ok (.slice (some ⟨g1, 0, none⟩) (n8 + 1) c1) w2 ∧
      BI w g least L' (all ++ [x]) (some ⟨g1, 0, none⟩) (n8 + 1) c1 w2 := by
  obtain ⟨hb, hr⟩ := h.after hs
  obtain rfl := h.len
  obtain ⟨g1, c1, w2, hrun, hown, hg, hat⟩ := item_run2 w.heap.size w' A8 c8 all x hr (by omega) hb.size
  have e1 : (all ++ [x]).length = all.length + 1 := by simp
  rw [e1] at hown hat
  refine ⟨g1, c1, w2, hrun, h.mk' (n' := all.length + 1) (by simpa using hs) (((Keep.refl _ w').alloc _).grown hg (fun k hk => .inl hk)) hown hat (by simp)⟩
theorem Reads.take_ {w : World} {B size n : Nat} {A : Option Addr} {xs : List Value} (h : Reads w B size A n xs) {k : Nat} (hk : k ≤ n) : Reads w B size A k (xs.take (k * size)) := by
  refine ⟨by rw [List.length_take, h.1]; have := Nat.mul_le_mul_right size hk; omega, fun h0 => ?_⟩
  obtain ⟨ad, e, hb, hc⟩ := h.2 (by omega)
  exact ⟨ad, e, hb, fun j u hu => hc j u (by
    rw [List.getElem?_take] at hu
    split at hu
    · exact hu
    · cases hu)⟩
theorem itL_erase (l : List It) (k : Nat) : itL (l.eraseIdx k) = (itL l).take (k * 2) ++ (itL l).drop ((k + 1) * 2) := by
  rw [List.eraseIdx_eq_take_drop_succ, itL_append, itL_take, itL_drop]
/-- An item is taken out: the two appends' runs, told ahead. -/
theorem BI.pull (h : BI w g least L all A8 n8 c8 wr) {k : Nat} (hk : k < n8) (hs : St (X8 w A8 n8 c8) wr g least ((n8 : Int) - 1) L' w') (hl : n8 ≤ 60000) :
    ∃ v1 w1 g2 c2 w2, (Builtin.append_ #[43, 43] 43 #[.slice (some ⟨w'.heap.size, 0, none⟩) 0 0, .slice A8 k c8]).run Try.prog (w'.drew.alloc (.cells #[] 54)) = .ok v1 w1 ∧
      (Builtin.append_ #[43, 43] 43 #[v1, .slice (if c8 = k + 1 then A8 else A8.map (·.add ((k + 1) * 2))) (n8 - (k + 1)) (c8 - (k + 1))]).run Try.prog w1 = .ok (.slice g2 (n8 - 1) c2) w2 ∧
      BI w g least L' (all.eraseIdx k) g2 (n8 - 1) c2 w2 := by
  obtain ⟨hb, hr⟩ := h.after hs
  obtain rfl := h.len
  obtain ⟨i0, hi, hz0, hz1, hz2⟩ := info_parts infoI
  have hrd : Reads w' w'.heap.size 2 A8 all.length (itL all) := Reads.of_own hr
  have hc8 : all.length ≤ c8 := by
    obtain ⟨_, _, e, e1, _⟩ := ownsRow_form hr
    injection e with _ _ e
    omega
  obtain ⟨Wa, hWa⟩ : ∃ Wa, w'.drew.alloc (.cells #[] 54) = Wa := ⟨_, rfl⟩
  have hba : Below w'.heap.size w' Wa := by rw [← hWa]; exact (below_drew (Below.refl _ _)).alloc (Nat.le_refl _) _
  have hza : Wa.heap.size = w'.heap.size + 1 := by rw [← hWa]; simp
  have hown0 : Wa.ownsRow w'.heap.size 54 2 (.slice (some ⟨w'.heap.size, 0, none⟩) 0 0) 0 [] := by
    rw [← hWa]; exact World.ownsRow_lit w'.drew #[] 0 (Nat.le_refl _) (Nat.zero_le _) (by simp)
  have hrda := hrd.below hba
  obtain ⟨v1, w1, run1, o1, gr1, at1⟩ := run_append_any (P := Try.prog) Wa w'.heap.size 43 43 54 i0 _ 2 16 Try.underlying43 hi hz0 hz1 hz2 rfl (by decide) (.slice (some ⟨w'.heap.size, 0, none⟩) 0 0) 0 [] hown0 w'.heap.size A8 k c8 ((itL all).take (k * 2)) (Reads.take_ hrda (by omega))
    (fun u hu => itL_one all u (List.mem_of_mem_take hu)) (by unfold maxLen; omega) (by omega) (by omega)
  have hb1 : Below w'.heap.size w' w1 := hba.grown gr1 hba.size (fun r hr2 => by simp [Value.ownBlock] at hr2; omega)
  have hrd1 := hrd.below hb1
  have hcut := hrd1.cut (k := k + 1) (cap := c8) (by omega) hc8
  obtain ⟨v2, w2, run2, o2, gr2, at2⟩ := run_append_any (P := Try.prog) w1 w'.heap.size 43 43 54 i0 _ 2 16 Try.underlying43 hi hz0 hz1 hz2 rfl (by decide) v1 (0 + k) _ o1 w'.heap.size (if c8 = k + 1 then A8 else A8.map (·.add ((k + 1) * 2))) (all.length - (k + 1)) (c8 - (k + 1)) ((itL all).drop ((k + 1) * 2)) hcut
    (fun u hu => itL_one all u (List.mem_of_mem_drop hu)) (by unfold maxLen; omega) (by omega) hb1.size
  have e : 0 + k + (all.length - (k + 1)) = all.length - 1 := by omega
  rw [e, List.nil_append, ← itL_erase] at o2
  obtain ⟨g2, c2, rfl, _, _⟩ := ownsRow_form o2
  have hb2 : Below w'.heap.size w' w2 := hb1.grown gr2 hb1.size (fun r hr2 => (o1.lt r hr2).1)
  refine ⟨v1, w1, g2, c2, w2, by rw [hWa]; exact run1, run2, h.mk' (n' := all.length - 1) ?_ (Keep.new hb2) (ownsRow_base o2 (fun r hr2 => Nat.le_trans hb.size (o2.lt r hr2).1)) (fun r hr2 => .inr (o2.lt r hr2).1) ?_⟩
  · have : (((all.length - 1 : Nat)) : Int) = (all.length : Int) - 1 := by omega
    rw [this]; exact hs
  · rw [List.length_eraseIdx, if_pos hk]
end
end Go.Proofs.Ytjipncpplpfobaa.Lb
