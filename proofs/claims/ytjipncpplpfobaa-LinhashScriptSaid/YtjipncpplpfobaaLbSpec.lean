/- Buckets of items, in memory: an outer row of rows, each a row of items of its own. -/
import Derived.Test.YtjipncpplpfobaaKeep
import Derived.Test.YtjipncpplpfobaaRows2
import Derived.Test.YtjipncpplpfobaaBucketSpec
namespace Go.Proofs.Ytjipncpplpfobaa.Lb
open Go.RowKit K Hs
set_option linter.unusedVariables false
set_option linter.unusedSimpArgs false

abbrev It := Int × Int
def itL : List It → List Value
  | [] => []
  | x :: l => .int .u32 x.1 :: .int .i64 x.2 :: itL l
theorem itL_length (l : List It) : (itL l).length = l.length * 2 := by
  induction l with
  | nil => rfl
  | cons x l ih => simp [itL, ih]; omega
theorem itL_append (l m : List It) : itL (l ++ m) = itL l ++ itL m := by
  induction l with
  | nil => rfl
  | cons x l ih => simp [itL, ih]
theorem itL_one (l : List It) : ∀ u ∈ itL l, u.oneCell' = true := by
  induction l with
  | nil => intro u h; cases h
  | cons x l ih =>
    intro u h
    simp only [itL, List.mem_cons] at h
    rcases h with rfl | rfl | h
    · rfl
    · rfl
    · exact ih u h
theorem itL_at {l : List It} {k : Nat} {x : It} (h : l[k]? = some x) : (itL l)[k * 2]? = some (.int .u32 x.1) ∧ (itL l)[k * 2 + 1]? = some (.int .i64 x.2) := by
  induction l generalizing k with
  | nil => simp at h
  | cons y l ih =>
    cases k with
    | zero => simp at h; subst h; exact ⟨rfl, rfl⟩
    | succ k =>
      simp at h
      obtain ⟨h1, h2⟩ := ih h
      rw [show (k + 1) * 2 = k * 2 + 1 + 1 by omega]
      simp only [itL, List.getElem?_cons_succ]
      exact ⟨h1, h2⟩
theorem itL_take (l : List It) (k : Nat) : (itL l).take (k * 2) = itL (l.take k) := by
  induction l generalizing k with
  | nil => simp [itL]
  | cons y l ih =>
    cases k with
    | zero => simp [itL]
    | succ k =>
      rw [show (k + 1) * 2 = k * 2 + 1 + 1 by omega]
      simp [itL, ih]
theorem itL_drop (l : List It) (k : Nat) : (itL l).drop (k * 2) = itL (l.drop k) := by
  induction l generalizing k with
  | nil => simp [itL]
  | cons y l ih =>
    cases k with
    | zero => simp [itL]
    | succ k =>
      rw [show (k + 1) * 2 = k * 2 + 1 + 1 by omega]
      simp [itL, ih]

/-- The rows. -/
def Rws (w : World) (G : Nat → Prop) (gr cap : Nat) (L : List (List It)) : Prop :=
  ∃ V : List Value, w.ownsRow 0 43 1 (.slice (some ⟨gr, 0, none⟩) L.length cap) L.length V ∧ G gr ∧
    (∀ (i : Nat) (l : List It), L[i]? = some l → ∃ (A : Option Addr) (c : Nat), V[i]? = some (Value.slice A l.length c) ∧ w.ownsRow 0 54 2 (.slice A l.length c) l.length (itL l) ∧ ∀ r, (Value.slice A l.length c).ownBlock = some r → G r) ∧
    (∀ (i j : Nat) (u u' : Value) (r : Nat), V[i]? = some u → V[j]? = some u' → u.ownBlock = some r → u'.ownBlock = some r → i = j)
section
variable {w w' w1 : World} {F G G' : Nat → Prop} {g gr cap : Nat} {L : List (List It)}
theorem Rws.mono (h : Rws w G gr cap L) (hG : ∀ k, G k → G' k) : Rws w G' gr cap L := by
  obtain ⟨V, h1, h2, h3, h4⟩ := h
  refine ⟨V, h1, hG _ h2, fun i l hi => ?_, h4⟩
  obtain ⟨A, c, a1, a2, a3⟩ := h3 i l hi
  exact ⟨A, c, a1, a2, fun r hr => hG _ (a3 r hr)⟩
theorem Rws.keep (h : Rws w G gr cap L) (hk : Keep F w w') (hd : ∀ r, G r → ¬ F r) : Rws w' G gr cap L := by
  obtain ⟨V, h1, h2, h3, h4⟩ := h
  refine ⟨V, ownsRow_keep h1 hk (fun r hr => ?_), h2, fun i l hi => ?_, h4⟩
  · have : gr = r := by simpa [Value.ownBlock] using hr
    subst this
    exact hd _ h2
  obtain ⟨A, c, a1, a2, a3⟩ := h3 i l hi
  exact ⟨A, c, a1, ownsRow_keep a2 hk (fun r hr => hd _ (a3 r hr)), a3⟩
theorem Rws.outer (h : Rws w G gr cap L) : gr < w.heap.size ∧ G gr ∧ L.length ≤ cap ∧ cap ≤ maxLen := by
  obtain ⟨V, h1, h2, h3, h4⟩ := h
  obtain ⟨A, c, e, e1, e2⟩ := ownsRow_form h1
  injection e with _ _ e
  subst e
  exact ⟨(h1.lt gr (by simp [Value.ownBlock])).2, h2, e1, e2⟩
theorem Rws.spot (h : Rws w G gr cap L) {i : Nat} {l : List It} (hi : L[i]? = some l) : ∃ A c, w.cell? ⟨gr, i, none⟩ = some (.slice A l.length c) ∧ w.frozen? ⟨gr, i, none⟩ = false ∧ w.ownsRow 0 54 2 (.slice A l.length c) l.length (itL l) ∧ (∀ r, (Value.slice A l.length c).ownBlock = some r → G r ∧ r < w.heap.size ∧ r ≠ gr) ∧ (A = none → c = 0) := by
  obtain ⟨V, h1, h2, h3, h4⟩ := h
  obtain ⟨A, c, a1, a2, a3⟩ := h3 i l hi
  have hlt : i < L.length := (List.getElem?_eq_some_iff.1 hi).1
  rcases h1.2 with ⟨h', _⟩ | ⟨g', cap', cur, hv, hb, hg, hnc, hcm, hcs, htake⟩
  · cases h'
  have hg' : gr = g' := by injection hv with h5; injection h5 with h5; injection h5
  subst hg'
  have hg2 : Blk w gr 43 cur := hg
  refine ⟨A, c, ?_, hg2.frozen i, a2, fun r hr => ⟨a3 r hr, (a2.lt r hr).2, ?_⟩, ?_⟩
  · rw [hg2.cell, ← a1, ← htake, List.getElem?_take, if_pos (by omega)]; simp
  · rintro rfl
    exact own_blk_ne a2 hg2 (by decide) hr
  · rintro rfl
    rcases a2.2 with ⟨h', _⟩ | ⟨g', cap', cur, hv, _⟩
    · injection h'
    · cases hv
/-- One row is another now. -/
theorem Rws.set (h : Rws w G gr cap L) {i : Nat} {l l' : List It} {A A' : Option Addr} {c c' : Nat} (hi : L[i]? = some l) (hc : w.cell? ⟨gr, i, none⟩ = some (.slice A l.length c))
    (hk : Keep (fun k => (Value.slice A l.length c).ownBlock = some k) w w1) (hn : w1.ownsRow 0 54 2 (.slice A' l'.length c') l'.length (itL l'))
    (hat : ∀ r, (Value.slice A' l'.length c').ownBlock = some r → (Value.slice A l.length c).ownBlock = some r ∨ w.heap.size ≤ r) :
    Rws (w1.setCell ⟨gr, i, none⟩ (.slice A' l'.length c')) (fun k => G k ∨ (w.heap.size ≤ k ∧ k < w1.heap.size)) gr cap (L.set i l') := by
  obtain ⟨Ax, cx, s1, s2, s3, s4, _⟩ := h.spot hi
  rw [hc] at s1
  injection s1 with s1
  injection s1 with e1 _ e2
  subst e1 e2
  have hgs := h.outer.1
  obtain ⟨V, h1, h2, h3, h4⟩ := h
  obtain ⟨A0, c0, a1, a2, a3⟩ := h3 i l hi
  have hlt : i < L.length := (List.getElem?_eq_some_iff.1 hi).1
  have hVl : V.length = L.length := by have := h1.1; omega
  have e3 : Value.slice A0 l.length c0 = Value.slice A l.length c := by
    rcases h1.2 with ⟨h', _⟩ | ⟨g', cap', cur, hv, hb, hg, hnc, hcm, hcs, htake⟩
    · cases h'
    have hg' : gr = g' := by injection hv with h5; injection h5 with h5; injection h5
    subst hg'
    have hg2 : Blk w gr 43 cur := hg
    rw [hg2.cell] at hc
    rw [← htake, List.getElem?_take, if_pos (by omega)] at a1
    rw [Array.getElem?_toList, hc] at a1
    injection a1 with a1
    exact a1.symm
  rw [e3] at a1 a2 a3
  have hng : (Value.slice A l.length c).ownBlock ≠ some gr := fun e => (s4 _ e).2.2 rfl
  have hout : w1.ownsRow 0 43 1 (.slice (some ⟨gr, 0, none⟩) L.length cap) L.length V := ownsRow_keep h1 hk (fun r hr => by
    have : gr = r := by simpa [Value.ownBlock] using hr
    subst this
    exact hng)
  have hset := (hout.stored i (.slice A' l'.length c')).1
  have hgB : ∃ cur, Blk w1 gr 43 cur := by
    rcases hout.2 with ⟨h', _⟩ | ⟨g', cap', cur, hv, hb, hg, _⟩
    · cases h'
    have hg' : gr = g' := by injection hv with h5; injection h5 with h5; injection h5
    subst hg'
    exact ⟨cur, hg⟩
  obtain ⟨curB, hgB⟩ := hgB
  refine ⟨V.set i (.slice A' l'.length c'), by simpa using hset, .inl h2, fun j m hj => ?_, fun j k u u' r hj hk' hu hu' => ?_⟩
  · by_cases e : i = j
    · subst e
      rw [List.getElem?_set_self (by omega)] at hj
      injection hj with hj
      subst hj
      refine ⟨A', c', by rw [List.getElem?_set_self (by omega)], ownsRow_keep hn ((Keep.refl (fun k => k = gr) w1).setCell (.inl rfl) _) (fun r hr e => ?_), fun r hr => ?_⟩
      · subst e; exact own_blk_ne hn hgB (by decide) hr
      · rcases hat r hr with h' | h'
        · exact .inl (a3 r h')
        · exact .inr ⟨h', (hn.lt r hr).2⟩
    · rw [List.getElem?_set_ne e] at hj
      obtain ⟨A2, c2, b1, b2, b3⟩ := h3 j m hj
      have b4 := ownsRow_keep b2 hk (fun r hr hr2 => e (h4 i j _ _ r a1 b1 hr2 hr))
      refine ⟨A2, c2, by rw [List.getElem?_set_ne e]; exact b1, ownsRow_keep b4 ((Keep.refl (fun k => k = gr) w1).setCell (.inl rfl) _) (fun r hr e => ?_), fun r hr => .inl (b3 r hr)⟩
      subst e; exact own_blk_ne b4 hgB (by decide) hr
  · have hlt2 : ∀ j u r, i ≠ j → V[j]? = some u → u.ownBlock = some r → r < w.heap.size ∧ (Value.slice A l.length c).ownBlock ≠ some r := fun j u r e hj hu => by
      have hjl : j < L.length := by have := (List.getElem?_eq_some_iff.1 hj).1; omega
      obtain ⟨A2, c2, b1, b2, b3⟩ := h3 j L[j] (List.getElem?_eq_getElem hjl)
      rw [hj] at b1
      injection b1 with b1
      rw [b1] at hu
      exact ⟨(b2.lt r hu).2, fun h5 => e (h4 i j _ _ r a1 (b1 ▸ hj) h5 hu)⟩
    by_cases ej : i = j <;> by_cases ek : i = k
    · omega
    · subst ej
      rw [List.getElem?_set_self (by omega)] at hj
      injection hj with hj
      subst hj
      rw [List.getElem?_set_ne ek] at hk'
      obtain ⟨x1, x2⟩ := hlt2 k u' r ek hk' hu'
      rcases hat r hu with h' | h'
      · exact absurd h' x2
      · omega
    · subst ek
      rw [List.getElem?_set_self (by omega)] at hk'
      injection hk' with hk'
      subst hk'
      rw [List.getElem?_set_ne ej] at hj
      obtain ⟨x1, x2⟩ := hlt2 j u r ej hj hu
      rcases hat r hu' with h' | h'
      · exact absurd h' x2
      · omega
    · rw [List.getElem?_set_ne ej] at hj
      rw [List.getElem?_set_ne ek] at hk'
      exact h4 j k u u' r hj hk' hu hu'
/-- A row more, of no items. -/
theorem Rws.push (h : Rws w G gr cap L) {gr' cap' : Nat} {V' : List Value} (hb : Below w.heap.size w w1 ∨ Keep (fun k => k = gr) w w1) (hn : ∀ V, w.ownsRow 0 43 1 (.slice (some ⟨gr, 0, none⟩) L.length cap) L.length V → w1.ownsRow 0 43 1 (.slice (some ⟨gr', 0, none⟩) (L.length + 1) cap') (L.length + 1) (V ++ [.slice none 0 0]))
    (hat : gr' = gr ∨ w.heap.size ≤ gr') : Rws w1 (fun k => G k ∨ (w.heap.size ≤ k ∧ k < w1.heap.size)) gr' cap' (L ++ [[]]) := by
  have hk : Keep (fun k => k = gr) w w1 := by
    rcases hb with hb | hb
    · exact Keep.of_below hb (fun i hi h5 => by omega)
    · exact hb
  obtain ⟨V, h1, h2, h3, h4⟩ := h
  have hout := hn V h1
  have hVl : V.length = L.length := by have := h1.1; omega
  have hgr : ∀ (i : Nat) (l : List It) (A : Option Addr) (c : Nat), L[i]? = some l → V[i]? = some (Value.slice A l.length c) → w.ownsRow 0 54 2 (.slice A l.length c) l.length (itL l) → (Value.slice A l.length c).ownBlock ≠ some gr := fun i l A c _ _ ho => by
    rcases h1.2 with ⟨h', _⟩ | ⟨g', cap', cur, hv, hb, hg, _⟩
    · cases h'
    have hg' : gr = g' := by injection hv with h5; injection h5 with h5; injection h5
    subst hg'
    exact own_blk_ne ho (show Blk w gr 43 cur from hg) (by decide)
  refine ⟨V ++ [.slice none 0 0], by simpa using hout, ?_, fun i l hi => ?_, fun i j u u' r hi hj hu hu' => ?_⟩
  · rcases hat with h' | h'
    · subst h'; exact .inl h2
    · exact .inr ⟨h', (hout.lt gr' (by simp [Value.ownBlock])).2⟩
  · by_cases e : i < L.length
    · rw [List.getElem?_append_left e] at hi
      obtain ⟨A, c, a1, a2, a3⟩ := h3 i l hi
      exact ⟨A, c, by rw [List.getElem?_append_left (by omega)]; exact a1, ownsRow_keep a2 hk (fun r hr e => by subst e; exact hgr i l A c hi a1 a2 hr), fun r hr => .inl (a3 r hr)⟩
    · have hlt := (List.getElem?_eq_some_iff.1 hi).1
      simp at hlt
      obtain rfl : i = L.length := by omega
      rw [List.getElem?_append_right (Nat.le_refl _)] at hi
      simp at hi
      subst hi
      refine ⟨none, 0, by rw [List.getElem?_append_right (by omega), hVl]; simp, World.ownsRow_nil _ _ _ _, fun r hr => by simp [Value.ownBlock] at hr⟩
  · have hin : ∀ (i : Nat) (u : Value) (r : Nat), (V ++ [Value.slice none 0 0])[i]? = some u → u.ownBlock = some r → V[i]? = some u := fun i u r hi hu => by
      by_cases e : i < V.length
      · rwa [List.getElem?_append_left e] at hi
      · rw [List.getElem?_append_right (by omega)] at hi
        have : u = .slice none 0 0 := by
          rcases hx : i - V.length with _ | n
          · rw [hx] at hi; simp at hi; exact hi.symm
          · rw [hx] at hi; simp at hi
        subst this
        simp [Value.ownBlock] at hu
    exact h4 i j u u' r (hin i u r hi hu) (hin j u' r hj hu') hu hu'
/-- A row less. -/
theorem Rws.cut (h : Rws w G gr cap L) {m : Nat} (hm : m ≤ L.length) : Rws w G gr cap (L.take m) := by
  obtain ⟨V, h1, h2, h3, h4⟩ := h
  have hVl : V.length = L.length := by have := h1.1; omega
  have e : (L.take m).length = m := by simp; omega
  refine ⟨V.take m, ?_, h2, fun i l hi => ?_, fun i j u u' r hi hj hu hu' => ?_⟩
  · rw [e]
    refine ⟨by simp; omega, ?_⟩
    rcases h1.2 with ⟨h', _⟩ | ⟨g', cap', cur, hv, hb, hg, hnc, hcm, hcs, htake⟩
    · cases h'
    have hg' : gr = g' := by injection hv with h5; injection h5 with h5; injection h5
    subst hg'
    have hc' : cap = cap' := by injection hv
    subst hc'
    refine .inr ⟨gr, cap, cur, rfl, hb, hg, by omega, hcm, hcs, ?_⟩
    rw [← htake, List.take_take]
    congr 1
    omega
  · rw [List.getElem?_take] at hi
    split at hi
    · rename_i hlt
      obtain ⟨A, c, a1, a2, a3⟩ := h3 i l hi
      exact ⟨A, c, by rw [List.getElem?_take, if_pos hlt]; exact a1, a2, a3⟩
    · cases hi
  · rw [List.getElem?_take] at hi hj
    split at hi <;> split at hj
    · exact h4 i j u u' r hi hj hu hu'
    all_goals first | cases hi | cases hj
/-- Rows of no items. -/
theorem Rws.make (w : World) (n : Nat) (hn : n ≤ maxLen) : Rws (w.alloc (.cells (List.replicate n (Value.slice none 0 0)).toArray 43)) (fun k => k = w.heap.size) w.heap.size n (List.replicate n []) := by
  refine ⟨List.replicate n (.slice none 0 0), ?_, rfl, fun i l hi => ?_, fun i j u u' r hi hj hu hu' => ?_⟩
  · rw [List.length_replicate]
    exact ⟨by simp, .inr ⟨w.heap.size, n, _, rfl, Nat.zero_le _, heap_alloc_new w _, Nat.le_refl _, hn, by simp, by simp⟩⟩
  · rw [List.getElem?_replicate] at hi ⊢
    split at hi
    · rename_i h
      injection hi with hi
      subst hi
      exact ⟨none, 0, by rw [if_pos h]; rfl, World.ownsRow_nil _ _ _ _, fun r hr => by simp [Value.ownBlock] at hr⟩
    · cases hi
  · rw [List.getElem?_replicate] at hi
    split at hi
    · injection hi with hi; subst hi; simp [Value.ownBlock] at hu
    · cases hi
end

/-! ### The buckets themselves -/
def upG (G : Nat → Prop) (w w' : World) (k : Nat) : Prop := G k ∨ (w.heap.size ≤ k ∧ k < w'.heap.size)
def LB (w : World) (G : Nat → Prop) (g least : Nat) (cnt : Int) (gr cap : Nat) (L : List (List It)) : Prop :=
  (∀ k, G k → k < w.heap.size) ∧ G g ∧ Blk w g 39 #[.int .i64 (least : Int), .int .i64 cnt, .slice (some ⟨gr, 0, none⟩) L.length cap] ∧ Rws w G gr cap L
section
variable {w w' w1 : World} {F G G' : Nat → Prop} {g gr cap least : Nat} {cnt : Int} {L : List (List It)}
theorem upG.trans {w2 : World} (h1 : w.heap.size ≤ w1.heap.size) (h2 : w1.heap.size ≤ w2.heap.size) : ∀ k, upG (upG G w w1) w1 w2 k → upG G w w2 k := by
  intro k h
  unfold upG at *
  rcases h with (h | h) | h
  · exact .inl h
  · exact .inr ⟨h.1, by omega⟩
  · exact .inr ⟨by omega, h.2⟩
theorem LB.mono (h : LB w G g least cnt gr cap L) (hG : ∀ k, G k → G' k) (hl : ∀ k, G' k → k < w.heap.size) : LB w G' g least cnt gr cap L := ⟨hl, hG _ h.2.1, h.2.2.1, h.2.2.2.mono hG⟩
theorem LB.keep (h : LB w G g least cnt gr cap L) (hk : Keep F w w') (hd : ∀ r, G r → ¬ F r) : LB w' G g least cnt gr cap L :=
  ⟨fun k hk2 => Nat.lt_of_lt_of_le (h.1 k hk2) hk.size, h.2.1, h.2.2.1.keep hk (hd _ h.2.1), h.2.2.2.keep hk hd⟩
theorem LB.cells (h : LB w G g least cnt gr cap L) : w.cell? ⟨g, 0, none⟩ = some (.int .i64 (least : Int)) ∧ w.cell? ⟨g, 1, none⟩ = some (.int .i64 cnt) ∧ w.cell? ⟨g, 2, none⟩ = some (.slice (some ⟨gr, 0, none⟩) L.length cap) ∧
    w.frozen? ⟨g, 0, none⟩ = false ∧ w.frozen? ⟨g, 1, none⟩ = false ∧ w.frozen? ⟨g, 2, none⟩ = false ∧ g < w.heap.size ∧ gr < w.heap.size ∧ L.length ≤ cap ∧ cap ≤ maxLen ∧ g ≠ gr := by
  obtain ⟨h1, h2, h3, h4⟩ := h
  obtain ⟨o1, o2, o3, o4⟩ := h4.outer
  refine ⟨by rw [h3.cell]; rfl, by rw [h3.cell]; rfl, by rw [h3.cell]; rfl, h3.frozen _, h3.frozen _, h3.frozen _, h1 _ h2, o1, o3, o4, ?_⟩
  rintro rfl
  obtain ⟨V, r1, _⟩ := h4
  exact own_blk_ne r1 h3 (by decide) (by simp [Value.ownBlock])
theorem LB.gr_lt (h : LB w G g least cnt gr cap L) : ∀ k, G k → k < w.heap.size := h.1
/-- A row of items is no block of the buckets', and not the outer row. -/
theorem LB.row_ne (h : LB w G g least cnt gr cap L) {A : Option Addr} {n c : Nat} {xs : List Value} (hr : w.ownsRow 0 54 2 (.slice A n c) n xs) : (Value.slice A n c).ownBlock ≠ some g := own_blk_ne hr h.2.2.1 (by decide)
/-- One row is another now. -/
theorem LB.set (h : LB w G g least cnt gr cap L) {i : Nat} {l l' : List It} {A A' : Option Addr} {c c' : Nat} (hi : L[i]? = some l) (hc : w.cell? ⟨gr, i, none⟩ = some (.slice A l.length c))
    (hk : Keep (fun k => (Value.slice A l.length c).ownBlock = some k) w w1) (hn : w1.ownsRow 0 54 2 (.slice A' l'.length c') l'.length (itL l'))
    (hat : ∀ r, (Value.slice A' l'.length c').ownBlock = some r → (Value.slice A l.length c).ownBlock = some r ∨ w.heap.size ≤ r) :
    LB (w1.setCell ⟨gr, i, none⟩ (.slice A' l'.length c')) (upG G w (w1.setCell ⟨gr, i, none⟩ (.slice A' l'.length c'))) g least cnt gr cap (L.set i l') ∧ Keep G w (w1.setCell ⟨gr, i, none⟩ (.slice A' l'.length c')) := by
  have hz : (w1.setCell ⟨gr, i, none⟩ (.slice A' l'.length c')).heap.size = w1.heap.size := by simp [World.setCell]
  obtain ⟨_, _, _, _, _, _, q1, q2, q3, q4, q5⟩ := h.cells
  obtain ⟨Ax, cx, s1, s2, s3, s4, _⟩ := h.2.2.2.spot hi
  rw [hc] at s1
  injection s1 with s1
  injection s1 with e1 _ e2
  subst e1 e2
  have hg := h.row_ne s3
  obtain ⟨h1, h2, h3, h4⟩ := h
  refine ⟨⟨fun k hk2 => ?_, .inl h2, ?_, ?_⟩, ?_⟩
  · rw [hz]
    rcases hk2 with hk2 | hk2
    · exact Nat.lt_of_lt_of_le (h1 k hk2) hk.size
    · rw [← hz]; exact hk2.2
  · rw [List.length_set]
    exact (h3.keep hk hg).far q5 _
  · have := h4.set hi hc hk hn hat
    refine this.mono fun k hk2 => ?_
    unfold upG
    rw [hz]
    exact hk2
  · refine (hk.mono (fun j hj hj2 => (s4 j hj2).1)).setCell (.inl h4.outer.2.1) _
/-- The count is another now. -/
theorem LB.count (h : LB w G g least cnt gr cap L) (n : Int) : LB (w.setCell ⟨g, 1, none⟩ (.int .i64 n)) G g least n gr cap L ∧ Keep G w (w.setCell ⟨g, 1, none⟩ (.int .i64 n)) := by
  have hk := (Keep.refl (fun k => k = g) w).setCell (p := ⟨g, 1, none⟩) (.inl rfl) (.int .i64 n)
  have hr : Rws (w.setCell ⟨g, 1, none⟩ (.int .i64 n)) G gr cap L := by
    obtain ⟨V, r1, r2, r3, r4⟩ := h.2.2.2
    have q5 := h.cells.2.2.2.2.2.2.2.2.2.2
    refine ⟨V, ownsRow_keep r1 hk (fun r hr => by have : gr = r := by simpa [Value.ownBlock] using hr
                                                  subst this; exact fun e => q5 e.symm), r2, fun i l hi => ?_, r4⟩
    obtain ⟨A, c, a1, a2, a3⟩ := r3 i l hi
    exact ⟨A, c, a1, ownsRow_keep a2 hk (fun r hr e => by subst e; exact h.row_ne a2 hr), a3⟩
  refine ⟨⟨fun k hk2 => by simpa [World.setCell] using h.1 k hk2, h.2.1, ?_, hr⟩, hk.mono fun i _ e => e ▸ h.2.1⟩
  have := h.2.2.1.set_ 1 (.int .i64 n)
  simpa using this
/-- The outer row is another now. -/
theorem LB.outer (h : LB w G g least cnt gr cap L) {gr' cap' : Nat} {L' : List (List It)} (hk : Keep (fun k => k = gr) w w1) (hr : Rws w1 (fun k => G k ∨ (w.heap.size ≤ k ∧ k < w1.heap.size)) gr' cap' L') :
    LB (w1.setCell ⟨g, 2, none⟩ (.slice (some ⟨gr', 0, none⟩) L'.length cap')) (upG G w (w1.setCell ⟨g, 2, none⟩ (.slice (some ⟨gr', 0, none⟩) L'.length cap'))) g least cnt gr' cap' L' ∧ Keep G w (w1.setCell ⟨g, 2, none⟩ (.slice (some ⟨gr', 0, none⟩) L'.length cap')) := by
  have hz : (w1.setCell ⟨g, 2, none⟩ (.slice (some ⟨gr', 0, none⟩) L'.length cap')).heap.size = w1.heap.size := by simp [World.setCell]
  obtain ⟨_, _, _, _, _, _, q1, q2, q3, q4, q5⟩ := h.cells
  have hB1 : Blk w1 g 39 #[.int .i64 (least : Int), .int .i64 cnt, .slice (some ⟨gr, 0, none⟩) L.length cap] := h.2.2.1.keep hk q5
  have hks := (Keep.refl (fun k => k = g) w1).setCell (p := ⟨g, 2, none⟩) (.inl rfl) (.slice (some ⟨gr', 0, none⟩) L'.length cap')
  refine ⟨⟨fun k hk2 => ?_, .inl h.2.1, ?_, ?_⟩, ?_⟩
  · rw [hz]
    rcases hk2 with hk2 | hk2
    · exact Nat.lt_of_lt_of_le (h.1 k hk2) hk.size
    · rw [← hz]; exact hk2.2
  · have := hB1.set_ 2 (.slice (some ⟨gr', 0, none⟩) L'.length cap')
    simpa using this
  · obtain ⟨V, r1, r2, r3, r4⟩ := hr
    have hgB : gr' ≠ g := by
      rintro rfl
      exact own_blk_ne r1 hB1 (by decide) (by simp [Value.ownBlock])
    have r2' : upG G w (w1.setCell ⟨g, 2, none⟩ (.slice (some ⟨gr', 0, none⟩) L'.length cap')) gr' := by unfold upG; rw [hz]; exact r2
    refine ⟨V, ownsRow_keep r1 hks (fun r hr e => ?_), r2', fun i l hi => ?_, r4⟩
    · have : gr' = r := by simpa [Value.ownBlock] using hr
      subst this
      exact hgB e
    obtain ⟨A, c, a1, a2, a3⟩ := r3 i l hi
    refine ⟨A, c, a1, ownsRow_keep a2 hks (fun r hr e => ?_), fun r hr => ?_⟩
    · subst e; exact own_blk_ne a2 hB1 (by decide) hr
    · unfold upG; rw [hz]; exact a3 r hr
  · exact (hk.mono (fun i _ e => by subst e; exact h.2.2.2.outer.2.1)).setCell (.inl h.2.1) _
end
end Go.Proofs.Ytjipncpplpfobaa.Lb
