/- Buckets in memory: a row that is set, its block named exactly; and how buckets split and join, in plain words. -/
import Derived.Test.YtjipncpplpfobaaLbSpec
import Derived.Test.YtjipncpplpfobaaLbAdd
namespace Go.Proofs.Ytjipncpplpfobaa.Lb
open Go.RowKit K Hs
set_option linter.unusedVariables false
set_option linter.unusedSimpArgs false

section
variable {w w' w1 : World} {F G G' : Nat → Prop} {g gr cap least : Nat} {cnt : Int} {L : List (List It)}
/-- One row is another now. -/
theorem Rws.setG (h : Rws w G gr cap L) {i : Nat} {l l' : List It} {A A' : Option Addr} {c c' : Nat} (hi : L[i]? = some l) (hc : w.cell? ⟨gr, i, none⟩ = some (.slice A l.length c))
    (hk : Keep (fun k => (Value.slice A l.length c).ownBlock = some k) w w1) (hn : w1.ownsRow 0 54 2 (.slice A' l'.length c') l'.length (itL l'))
    (hat : ∀ r, (Value.slice A' l'.length c').ownBlock = some r → (Value.slice A l.length c).ownBlock = some r ∨ ¬ G r) :
    Rws (w1.setCell ⟨gr, i, none⟩ (.slice A' l'.length c')) (fun k => G k ∨ (Value.slice A' l'.length c').ownBlock = some k) gr cap (L.set i l') := by
  obtain ⟨Ax, cx, s1, s2, s3, s4, _⟩ := h.spot hi
  rw [hc] at s1
  injection s1 with s1
  injection s1 with e1 _ e2
  subst e1 e2
  have hgs := h.outer.1
  obtain ⟨V, h1, h2, h3, h4⟩ := h
  obtain ⟨A0, c0, a1, a2, a3⟩ := h3 i l hi
  have hlt : i < L.length := (List.getElem?_eq_some_iff.1 hi).1
  have hVl : V.length = L.length := by have := h1.1; omega
  have e3 : Value.slice A0 l.length c0 = Value.slice A l.length c := by
    rcases h1.2 with ⟨h', _⟩ | ⟨g', cap', cur, hv, hb, hg, hnc, hcm, hcs, htake⟩
    · cases h'
    have hg' : gr = g' := by injection hv with h5; injection h5 with h5; injection h5
    subst hg'
    have hg2 : Blk w gr 43 cur := hg
    rw [hg2.cell] at hc
    rw [← htake, List.getElem?_take, if_pos (by omega)] at a1
    rw [Array.getElem?_toList, hc] at a1
    injection a1 with a1
    exact a1.symm
  rw [e3] at a1 a2 a3
  have hng : (Value.slice A l.length c).ownBlock ≠ some gr := fun e => (s4 _ e).2.2 rfl
  have hout : w1.ownsRow 0 43 1 (.slice (some ⟨gr, 0, none⟩) L.length cap) L.length V := ownsRow_keep h1 hk (fun r hr => by
    have : gr = r := by simpa [Value.ownBlock] using hr
    subst this
    exact hng)
  have hset := (hout.stored i (.slice A' l'.length c')).1
  have hgB : ∃ cur, Blk w1 gr 43 cur := by
    rcases hout.2 with ⟨h', _⟩ | ⟨g', cap', cur, hv, hb, hg, _⟩
    · cases h'
    have hg' : gr = g' := by injection hv with h5; injection h5 with h5; injection h5
    subst hg'
    exact ⟨cur, hg⟩
  obtain ⟨curB, hgB⟩ := hgB
  refine ⟨V.set i (.slice A' l'.length c'), by simpa using hset, .inl h2, fun j m hj => ?_, fun j k u u' r hj hk' hu hu' => ?_⟩
  · by_cases e : i = j
    · subst e
      rw [List.getElem?_set_self (by omega)] at hj
      injection hj with hj
      subst hj
      refine ⟨A', c', by rw [List.getElem?_set_self (by omega)], ownsRow_keep hn ((Keep.refl (fun k => k = gr) w1).setCell (.inl rfl) _) (fun r hr e => ?_), fun r hr => ?_⟩
      · subst e; exact own_blk_ne hn hgB (by decide) hr
      · rcases hat r hr with h' | h'
        · exact .inl (a3 r h')
        · exact .inr hr
    · rw [List.getElem?_set_ne e] at hj
      obtain ⟨A2, c2, b1, b2, b3⟩ := h3 j m hj
      have b4 := ownsRow_keep b2 hk (fun r hr hr2 => e (h4 i j _ _ r a1 b1 hr2 hr))
      refine ⟨A2, c2, by rw [List.getElem?_set_ne e]; exact b1, ownsRow_keep b4 ((Keep.refl (fun k => k = gr) w1).setCell (.inl rfl) _) (fun r hr e => ?_), fun r hr => .inl (b3 r hr)⟩
      subst e; exact own_blk_ne b4 hgB (by decide) hr
  · have hlt2 : ∀ j u r, i ≠ j → V[j]? = some u → u.ownBlock = some r → G r ∧ (Value.slice A l.length c).ownBlock ≠ some r := fun j u r e hj hu => by
      have hjl : j < L.length := by have := (List.getElem?_eq_some_iff.1 hj).1; omega
      obtain ⟨A2, c2, b1, b2, b3⟩ := h3 j L[j] (List.getElem?_eq_getElem hjl)
      rw [hj] at b1
      injection b1 with b1
      rw [b1] at hu
      exact ⟨b3 r hu, fun h5 => e (h4 i j _ _ r a1 (b1 ▸ hj) h5 hu)⟩
    by_cases ej : i = j <;> by_cases ek : i = k
    · omega
    · subst ej
      rw [List.getElem?_set_self (by omega)] at hj
      injection hj with hj
      subst hj
      rw [List.getElem?_set_ne ek] at hk'
      obtain ⟨x1, x2⟩ := hlt2 k u' r ek hk' hu'
      rcases hat r hu with h' | h'
      · exact absurd h' x2
      · exact absurd x1 h'
    · subst ek
      rw [List.getElem?_set_self (by omega)] at hk'
      injection hk' with hk'
      subst hk'
      rw [List.getElem?_set_ne ej] at hj
      obtain ⟨x1, x2⟩ := hlt2 j u r ej hj hu
      rcases hat r hu' with h' | h'
      · exact absurd h' x2
      · exact absurd x1 h'
    · rw [List.getElem?_set_ne ej] at hj
      rw [List.getElem?_set_ne ek] at hk'
      exact h4 j k u u' r hj hk' hu hu'
/-- One row is another now. -/
theorem LB.setG (h : LB w G g least cnt gr cap L) {i : Nat} {l l' : List It} {A A' : Option Addr} {c c' : Nat} (hi : L[i]? = some l) (hc : w.cell? ⟨gr, i, none⟩ = some (.slice A l.length c))
    (hk : Keep (fun k => (Value.slice A l.length c).ownBlock = some k) w w1) (hn : w1.ownsRow 0 54 2 (.slice A' l'.length c') l'.length (itL l'))
    (hat : ∀ r, (Value.slice A' l'.length c').ownBlock = some r → (Value.slice A l.length c).ownBlock = some r ∨ ¬ G r) :
    LB (w1.setCell ⟨gr, i, none⟩ (.slice A' l'.length c')) (fun k => G k ∨ (Value.slice A' l'.length c').ownBlock = some k) g least cnt gr cap (L.set i l') ∧ Keep G w (w1.setCell ⟨gr, i, none⟩ (.slice A' l'.length c')) := by
  have hz : (w1.setCell ⟨gr, i, none⟩ (.slice A' l'.length c')).heap.size = w1.heap.size := by simp [World.setCell]
  obtain ⟨_, _, _, _, _, _, q1, q2, q3, q4, q5⟩ := h.cells
  obtain ⟨Ax, cx, s1, s2, s3, s4, _⟩ := h.2.2.2.spot hi
  rw [hc] at s1
  injection s1 with s1
  injection s1 with e1 _ e2
  subst e1 e2
  have hg := h.row_ne s3
  obtain ⟨h1, h2, h3, h4⟩ := h
  refine ⟨⟨fun k hk2 => ?_, .inl h2, ?_, ?_⟩, ?_⟩
  · rw [hz]
    rcases hk2 with hk2 | hk2
    · exact Nat.lt_of_lt_of_le (h1 k hk2) hk.size
    · exact (hn.lt k hk2).2
  · rw [List.length_set]
    exact (h3.keep hk hg).far q5 _
  · exact h4.setG hi hc hk hn hat
  · refine (hk.mono (fun j hj hj2 => (s4 j hj2).1)).setCell (.inl h4.outer.2.1) _
end

/-! ### Split and Join, in plain words -/
/-- From which bucket the new one is filled. -/
def frm (m : Nat) : Nat := m - 2 ^ m.log2
theorem frm_is {m j : Nat} (h1 : 2 ^ j ≤ m) (h2 : m < 2 ^ (j + 1)) : frm m = m - 2 ^ j := by
  have hm : m ≠ 0 := by have := Nat.two_pow_pos j; omega
  have h3 := Nat.log2_self_le hm
  have h4 : m < 2 ^ (m.log2 + 1) := Nat.lt_log2_self
  have h5 : j < m.log2 + 1 := (Nat.pow_lt_pow_iff_right (a := 2) (by decide)).1 (Nat.lt_of_le_of_lt h1 h4)
  have h6 : m.log2 < j + 1 := (Nat.pow_lt_pow_iff_right (a := 2) (by decide)).1 (Nat.lt_of_le_of_lt h3 h2)
  have : j = m.log2 := by omega
  unfold frm; rw [this]
theorem frm_lt {m : Nat} (h : 1 ≤ m) : frm m < m := by
  have := Nat.two_pow_pos m.log2
  unfold frm; omega
def stayL (m : Nat) (l : List It) : List It := l.filter fun x => decide (bk x.1 (m + 1) ≠ m)
def goL (m : Nat) (l : List It) : List It := l.filter fun x => decide (bk x.1 (m + 1) = m)
def splitL (L : List (List It)) : List (List It) := ((L ++ [[]]).set L.length (goL L.length (L.getD (frm L.length) []))).set (frm L.length) (stayL L.length (L.getD (frm L.length) []))
theorem splitL_len (L : List (List It)) : (splitL L).length = L.length + 1 := by simp [splitL]
/-- Items put in turn, each into the bucket of its hash. -/
def putAll (L : List (List It)) (l : List It) : List (List It) := l.foldl (fun L x => addL L (bk x.1 L.length) x) L
theorem putAll_len (l : List It) : ∀ L, (putAll L l).length = L.length := by
  induction l with
  | nil => intro L; rfl
  | cons x l ih => intro L; show (putAll _ l).length = _; rw [ih]; exact addL_len _ _ _
def joinL (L : List (List It)) : List (List It) := putAll (L.take (L.length - 1)) (L.getD (L.length - 1) [])
end Go.Proofs.Ytjipncpplpfobaa.Lb
