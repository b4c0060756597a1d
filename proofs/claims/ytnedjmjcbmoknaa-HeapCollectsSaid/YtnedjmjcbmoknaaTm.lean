/- Terms as a plain datum, and how they lie in memory: 'TAt w F t v': the value v reads as t, its blocks among F. No program in sight. -/
import Derived.Test.YtnedjmjcbmoknaaOpenPairs
import Derived.Deep.Slices
import Derived.Lib.SmallJoins
namespace Go.Proofs.Ytnedjmjcbmoknaa.K
open Go.RowKit Go.ChangeShapes Go.WideShapes Go.Deep
set_option linter.unusedVariables false
set_option linter.unusedSimpArgs false

inductive Tm where
  | mk (k n : Int) (s : ByteArray) (l : List Tm)
instance : Inhabited Tm := ⟨.mk 0 0 .empty []⟩
namespace Tm
def k : Tm → Int | mk k _ _ _ => k
def n : Tm → Int | mk _ n _ _ => n
def s : Tm → ByteArray | mk _ _ s _ => s
def l : Tm → List Tm | mk _ _ _ l => l
@[simp] theorem k_mk (k n : Int) (s : ByteArray) (l : List Tm) : (mk k n s l).k = k := rfl
@[simp] theorem n_mk (k n : Int) (s : ByteArray) (l : List Tm) : (mk k n s l).n = n := rfl
@[simp] theorem s_mk (k n : Int) (s : ByteArray) (l : List Tm) : (mk k n s l).s = s := rfl
@[simp] theorem l_mk (k n : Int) (s : ByteArray) (l : List Tm) : (mk k n s l).l = l := rfl
theorem ind {P : Tm → Prop} (h : ∀ t : Tm, (∀ u ∈ t.l, P u) → P t) : ∀ t, P t
  | mk k n s l => h (mk k n s l) (fun u hu => ind h u)
termination_by t => SizeOf.sizeOf t
decreasing_by
  have h1 : u ∈ l := hu
  have := List.sizeOf_lt_of_mem h1
  simp
  omega
theorem ext {t u : Tm} (hk : t.k = u.k) (hn : t.n = u.n) (hs : t.s = u.s) (hl : t.l = u.l) : t = u := by
  cases t; cases u
  simp only [k_mk, n_mk, s_mk, l_mk] at *
  subst hk hn hs hl
  rfl
theorem eta (t : Tm) : mk t.k t.n t.s t.l = t := by cases t; rfl
end Tm

/-- The value of a term whose inner terms begin at A. -/
def tv (t : Tm) (A : Option Addr) (c : Nat) : Value := .agg #[.int .i64 t.k, .int .i64 t.n, .string t.s, .slice A t.l.length c]
/-- Element i of a slice of terms has these four cells. -/
def Slot (w : World) (F : Nat → Prop) (A : Option Addr) (i : Nat) (v : Value) : Prop :=
  ∃ b o x0 x1 x2 x3, A = some ⟨b, o, none⟩ ∧ F b ∧ v = .agg #[x0, x1, x2, x3] ∧ w.cell? ⟨b, o + i * 4, none⟩ = some x0 ∧ w.cell? ⟨b, o + i * 4 + 1, none⟩ = some x1 ∧ w.cell? ⟨b, o + i * 4 + 2, none⟩ = some x2 ∧ w.cell? ⟨b, o + i * 4 + 3, none⟩ = some x3
/-- What bounds a term's own parts. -/
structure TOk (t : Tm) (A : Option Addr) (c : Nat) : Prop where
  wk : (Lit.int .i64 t.k).wf = true
  wn : (Lit.int .i64 t.n).wf = true
  ws : t.s.size ≤ maxLen
  hl : t.l.length ≤ c
  hc : c ≤ maxLen
  hA : A = none → c = 0
inductive TAt (w : World) (F : Nat → Prop) : Tm → Value → Prop
  | mk (t : Tm) (A : Option Addr) (c : Nat) (V : Nat → Value) (ok : TOk t A c) (hs : ∀ i u, t.l[i]? = some u → Slot w F A i (V i)) (ht : ∀ i u, t.l[i]? = some u → TAt w F u (V i)) : TAt w F t (tv t A c)
/-- A slice of terms, from A on. -/
def TsAt (w : World) (F : Nat → Prop) (A : Option Addr) (l : List Tm) : Prop := ∀ i u, l[i]? = some u → ∃ v, Slot w F A i v ∧ TAt w F u v
/-- A slice's value that reads as a list of terms. -/
def SlAt (w : World) (F : Nat → Prop) (v : Value) (l : List Tm) : Prop := ∃ A c, v = .slice A l.length c ∧ l.length ≤ c ∧ c ≤ maxLen ∧ (A = none → c = 0) ∧ TsAt w F A l

section
variable {w w' : World} {F G : Nat → Prop} {t : Tm} {v : Value} {A : Option Addr} {l : List Tm}
theorem Slot.mono {i : Nat} (h : Slot w F A i v) (hF : ∀ b, F b → G b) : Slot w G A i v := by
  obtain ⟨b, o, x0, x1, x2, x3, hA, hb, r⟩ := h
  exact ⟨b, o, x0, x1, x2, x3, hA, hF b hb, r⟩
theorem Slot.keep {i : Nat} (h : Slot w F A i v) (hk : ∀ p : Addr, F p.block → w'.cell? p = w.cell? p) : Slot w' F A i v := by
  obtain ⟨b, o, x0, x1, x2, x3, hA, hb, hv, h0, h1, h2, h3⟩ := h
  exact ⟨b, o, x0, x1, x2, x3, hA, hb, hv, (hk _ hb).trans h0, (hk _ hb).trans h1, (hk _ hb).trans h2, (hk _ hb).trans h3⟩
theorem TAt.mono (h : TAt w F t v) (hF : ∀ b, F b → G b) : TAt w G t v := by
  induction h with
  | mk t A c V ok hs ht ih => exact .mk t A c V ok (fun i u hu => (hs i u hu).mono hF) (fun i u hu => ih i u hu)
theorem TAt.keep (h : TAt w F t v) (hk : ∀ p : Addr, F p.block → w'.cell? p = w.cell? p) : TAt w' F t v := by
  induction h with
  | mk t A c V ok hs ht ih => exact .mk t A c V ok (fun i u hu => (hs i u hu).keep hk) (fun i u hu => ih i u hu)
theorem TAt.inv (h : TAt w F t v) : ∃ A c, v = tv t A c ∧ TOk t A c ∧ TsAt w F A t.l := by
  cases h with
  | mk t A c V ok hs ht => exact ⟨A, c, rfl, ok, fun i u hu => ⟨V i, hs i u hu, ht i u hu⟩⟩
theorem TAt.of {c : Nat} (ok : TOk t A c) (h : TsAt w F A t.l) : TAt w F t (tv t A c) := by
  have : ∀ i, ∃ v, ∀ u, t.l[i]? = some u → Slot w F A i v ∧ TAt w F u v := fun i => by
    rcases hi : t.l[i]? with _ | u
    · exact ⟨undef, fun u hu => by cases hu⟩
    · obtain ⟨v, hv⟩ := h i u hi
      exact ⟨v, fun u' hu' => by injection hu' with hu'; subst hu'; exact hv⟩
  exact .mk t A c (fun i => Classical.choose (this i)) ok (fun i u hu => (Classical.choose_spec (this i) u hu).1) (fun i u hu => (Classical.choose_spec (this i) u hu).2)
theorem TsAt.mono (h : TsAt w F A l) (hF : ∀ b, F b → G b) : TsAt w G A l := fun i u hu => by
  obtain ⟨v, h1, h2⟩ := h i u hu
  exact ⟨v, h1.mono hF, h2.mono hF⟩
theorem TsAt.keep (h : TsAt w F A l) (hk : ∀ p : Addr, F p.block → w'.cell? p = w.cell? p) : TsAt w' F A l := fun i u hu => by
  obtain ⟨v, h1, h2⟩ := h i u hu
  exact ⟨v, h1.keep hk, h2.keep hk⟩
theorem SlAt.mono (h : SlAt w F v l) (hF : ∀ b, F b → G b) : SlAt w G v l := by
  obtain ⟨A, c, hv, h1, h2, h3, h4⟩ := h
  exact ⟨A, c, hv, h1, h2, h3, h4.mono hF⟩
theorem SlAt.keep (h : SlAt w F v l) (hk : ∀ p : Addr, F p.block → w'.cell? p = w.cell? p) : SlAt w' F v l := by
  obtain ⟨A, c, hv, h1, h2, h3, h4⟩ := h
  exact ⟨A, c, hv, h1, h2, h3, h4.keep hk⟩
theorem TsAt.nil (w : World) (F : Nat → Prop) (A : Option Addr) : TsAt w F A [] := fun i u hu => by simp at hu
theorem SlAt.nil (w : World) (F : Nat → Prop) : SlAt w F (.slice none 0 0) [] := ⟨none, 0, rfl, Nat.le_refl _, by simp [maxLen], fun _ => rfl, TsAt.nil _ _ _⟩
/-- Element i, its four cells and what it is. -/
theorem TsAt.at_ (h : TsAt w F A l) {i : Nat} {u : Tm} (hu : l[i]? = some u) :
    ∃ b o A' c', A = some ⟨b, o, none⟩ ∧ F b ∧ w.cell? ⟨b, o + i * 4, none⟩ = some (.int .i64 u.k) ∧ w.cell? ⟨b, o + i * 4 + 1, none⟩ = some (.int .i64 u.n) ∧ w.cell? ⟨b, o + i * 4 + 2, none⟩ = some (.string u.s) ∧ w.cell? ⟨b, o + i * 4 + 3, none⟩ = some (.slice A' u.l.length c') ∧ TOk u A' c' ∧ TsAt w F A' u.l := by
  obtain ⟨v, ⟨b, o, x0, x1, x2, x3, hA, hb, hv, h0, h1, h2, h3⟩, ht⟩ := h i u hu
  obtain ⟨A', c', rfl, ok, hl⟩ := ht.inv
  unfold tv at hv
  injection hv with hv
  simp only [Array.mk.injEq, List.cons.injEq, and_true] at hv
  obtain ⟨e0, e1, e2, e3⟩ := hv
  subst e0 e1 e2 e3
  exact ⟨b, o, A', c', hA, hb, h0, h1, h2, h3, ok, hl⟩
theorem TAt.under {B : Nat} (h : TAt w F t v) (hb : Below B w w') (hF : ∀ b, F b → b < B) : TAt w' F t v := h.keep fun p hp => hb.cell (hF _ hp)
theorem TsAt.under {B : Nat} (h : TsAt w F A l) (hb : Below B w w') (hF : ∀ b, F b → b < B) : TsAt w' F A l := h.keep fun p hp => hb.cell (hF _ hp)
theorem SlAt.under {B : Nat} (h : SlAt w F v l) (hb : Below B w w') (hF : ∀ b, F b → b < B) : SlAt w' F v l := h.keep fun p hp => hb.cell (hF _ hp)
theorem TAt.drewN (h : TAt w F t v) (n : Nat) : TAt (w.drewN n) F t v := h.keep fun _ _ => rfl
theorem TsAt.drewN (h : TsAt w F A l) (n : Nat) : TsAt (w.drewN n) F A l := h.keep fun _ _ => rfl
theorem SlAt.drewN (h : SlAt w F v l) (n : Nat) : SlAt (w.drewN n) F v l := h.keep fun _ _ => rfl
theorem TAt.alloc (h : TAt w F t v) (hF : ∀ b, F b → b < w.heap.size) (o : Obj) : TAt (w.alloc o) F t v := h.keep fun p hp => World.cell?_alloc_lt w o p (hF _ hp)
theorem TsAt.alloc (h : TsAt w F A l) (hF : ∀ b, F b → b < w.heap.size) (o : Obj) : TsAt (w.alloc o) F A l := h.keep fun p hp => World.cell?_alloc_lt w o p (hF _ hp)
theorem SlAt.alloc (h : SlAt w F v l) (hF : ∀ b, F b → b < w.heap.size) (o : Obj) : SlAt (w.alloc o) F v l := h.keep fun p hp => World.cell?_alloc_lt w o p (hF _ hp)
theorem TAt.keepF (h : TAt w F t v) (hk : Keep G w w') (hF : ∀ b, F b → b < w.heap.size) (hd : ∀ b, F b → ¬ G b) : TAt w' F t v := h.keep fun p hp => hk.cell (hF _ hp) (hd _ hp)
theorem TsAt.keepF (h : TsAt w F A l) (hk : Keep G w w') (hF : ∀ b, F b → b < w.heap.size) (hd : ∀ b, F b → ¬ G b) : TsAt w' F A l := h.keep fun p hp => hk.cell (hF _ hp) (hd _ hp)
theorem SlAt.keepF (h : SlAt w F v l) (hk : Keep G w w') (hF : ∀ b, F b → b < w.heap.size) (hd : ∀ b, F b → ¬ G b) : SlAt w' F v l := h.keep fun p hp => hk.cell (hF _ hp) (hd _ hp)
end

/-! ### What lies in old memory -/
/-- v reads as t, all in memory that is there. -/
def TA (w : World) (t : Tm) (v : Value) : Prop := TAt w (· < w.heap.size) t v
def TsA (w : World) (A : Option Addr) (l : List Tm) : Prop := TsAt w (· < w.heap.size) A l
section
variable {w w' : World} {t : Tm} {v : Value} {A : Option Addr} {l : List Tm}
theorem TA.later (h : TA w t v) (hb : Below w.heap.size w w') : TA w' t v := (TAt.under h hb (fun _ h => h)).mono (fun b hb' => Nat.lt_of_lt_of_le hb' hb.size)
theorem TsA.later (h : TsA w A l) (hb : Below w.heap.size w w') : TsA w' A l := (TsAt.under h hb (fun _ h => h)).mono (fun b hb' => Nat.lt_of_lt_of_le hb' hb.size)
/-- A term's value, written out. -/
theorem TA.open_ (h : TA w t v) : ∃ k n s l A c, t = .mk k n s l ∧ v = .agg #[.int .i64 k, .int .i64 n, .string s, .slice A l.length c] ∧ TOk (.mk k n s l) A c ∧ TsA w A l := by
  obtain ⟨A, c, rfl, ok, hl⟩ := TAt.inv h
  obtain ⟨k, n, s, l⟩ := t
  exact ⟨k, n, s, l, A, c, rfl, rfl, ok, hl⟩
theorem TA.shut {k n : Int} {s : ByteArray} {l : List Tm} {c : Nat} (ok : TOk (.mk k n s l) A c) (h : TsA w A l) : TA w (.mk k n s l) (.agg #[.int .i64 k, .int .i64 n, .string s, .slice A l.length c]) := TAt.of ok h
/-- Element i: where its cells lie, and that they read as it. -/
theorem TsA.at_ (h : TsA w A l) {i : Nat} {u : Tm} (hu : l[i]? = some u) :
    ∃ b o A' c', A = some ⟨b, o, none⟩ ∧ b < w.heap.size ∧ w.cell? ⟨b, o + i * 4, none⟩ = some (.int .i64 u.k) ∧ w.cell? ⟨b, o + i * 4 + 1, none⟩ = some (.int .i64 u.n) ∧ w.cell? ⟨b, o + i * 4 + 2, none⟩ = some (.string u.s) ∧ w.cell? ⟨b, o + i * 4 + 3, none⟩ = some (.slice A' u.l.length c') ∧
      TA w u (.agg #[.int .i64 u.k, .int .i64 u.n, .string u.s, .slice A' u.l.length c']) ∧ TOk u A' c' := by
  obtain ⟨b, o, A', c', hA, hb, h0, h1, h2, h3, ok, hl⟩ := TsAt.at_ h hu
  exact ⟨b, o, A', c', hA, hb, h0, h1, h2, h3, TAt.of ok hl, ok⟩
end
theorem TA.drew {w : World} {t : Tm} {v : Value} (h : TA w t v) : TA w.drew t v := h.keep fun _ _ => rfl
theorem TsA.drew {w : World} {A : Option Addr} {l : List Tm} (h : TsA w A l) : TsA w.drew A l := h.keep fun _ _ => rfl
theorem TA.alloc {w : World} {t : Tm} {v : Value} (h : TA w t v) (o : Obj) : TA (w.alloc o) t v := h.later ((Below.refl _ _).alloc (Nat.le_refl _) _)
theorem TsA.alloc {w : World} {A : Option Addr} {l : List Tm} (h : TsA w A l) (o : Obj) : TsA (w.alloc o) A l := h.later ((Below.refl _ _).alloc (Nat.le_refl _) _)
theorem bundrew {B : Nat} {w w' : World} (h : Below B w.drew w') : Below B w w' := ⟨h.os, h.tape, h.output, h.size, h.block⟩
theorem bundrewN {B n : Nat} {w w' : World} (h : Below B (w.drewN n) w') : Below B w w' := ⟨h.os, h.tape, h.output, h.size, h.block⟩
theorem btodrew {B : Nat} {w w' : World} (h : Below B w w') : Below B w w'.drew := ⟨h.os, h.tape, h.output, h.size, h.block⟩
theorem bnext {w0 w w' : World} (h : Below w0.heap.size w0 w) (h' : Below w.heap.size w w') : Below w0.heap.size w0 w' := h.trans (h'.mono h.size)
theorem ballocs {w0 w : World} (h : Below w0.heap.size w0 w) (o : Obj) : Below w0.heap.size w0 (w.alloc o) := h.alloc h.size o
theorem tstr_ne {s t : ByteArray} (h : s ≠ t) : (s.toList == t.toList) = false := by
  rw [Lib.toList_data, Lib.toList_data]
  simp only [beq_eq_false_iff_ne]
  intro e
  apply h
  obtain ⟨a⟩ := s
  obtain ⟨b⟩ := t
  exact congrArg _ (Array.ext' e)
open Classical in
noncomputable def eqT (a b : Tm) : Bool := decide (a = b)
open Classical in
noncomputable def eqTs (a b : List Tm) : Bool := decide (a = b)
theorem eqT_iff {a b : Tm} : eqT a b = true ↔ a = b := by unfold eqT; simp
theorem eqTs_iff {a b : List Tm} : eqTs a b = true ↔ a = b := by unfold eqTs; simp
theorem eqT_no {a b : Tm} : eqT a b = false ↔ a ≠ b := by unfold eqT; simp
theorem eqTs_no {a b : List Tm} : eqTs a b = false ↔ a ≠ b := by unfold eqTs; simp

/-! ### How many parts -/
mutual
def nodes : Tm → Nat
  | .mk _ _ _ l => nodesL l + 1
def nodesL : List Tm → Nat
  | [] => 0
  | t :: r => nodes t + nodesL r
end
theorem nodes_mk (k n : Int) (s : ByteArray) (l : List Tm) : nodes (.mk k n s l) = nodesL l + 1 := by rw [nodes]
theorem nodes_eq (t : Tm) : nodes t = nodesL t.l + 1 := by cases t; rw [nodes]; rfl
theorem nodesL_nil : nodesL [] = 0 := by rw [nodesL]
theorem nodesL_cons (t : Tm) (l : List Tm) : nodesL (t :: l) = nodes t + nodesL l := by rw [nodesL]
theorem nodes_pos (t : Tm) : 1 ≤ nodes t := by rw [nodes_eq]; omega
theorem nodesL_append (l l' : List Tm) : nodesL (l ++ l') = nodesL l + nodesL l' := by
  induction l with
  | nil => simp [nodesL_nil]
  | cons t l ih => simp only [List.cons_append, nodesL_cons, ih]; omega
theorem nodesL_len (l : List Tm) : l.length ≤ nodesL l := by
  induction l with
  | nil => simp
  | cons t l ih => rw [nodesL_cons]; have := nodes_pos t; simp; omega
theorem nodesL_mem {l : List Tm} {u : Tm} (h : u ∈ l) : nodes u ≤ nodesL l := by
  induction l with
  | nil => simp at h
  | cons t l ih =>
    rw [nodesL_cons]
    rcases List.mem_cons.1 h with rfl | h
    · omega
    · have := ih h; omega
theorem take_snoc_of {α : Type} {l : List α} {k : Nat} {u : α} (h : l[k]? = some u) : l.take (k + 1) = l.take k ++ [u] := by rw [List.take_add_one, h]; rfl
theorem nodesL_take_succ {l : List Tm} {k : Nat} {u : Tm} (h : l[k]? = some u) : nodesL (l.take (k + 1)) = nodesL (l.take k) + nodes u := by
  rw [take_snoc_of h, nodesL_append, nodesL_cons, nodesL_nil]; rfl
theorem nodesL_take_le (l : List Tm) (k : Nat) : nodesL (l.take k) ≤ nodesL l := by
  have := nodesL_append (l.take k) (l.drop k)
  rw [List.take_append_drop] at this
  omega

/-! ### Texts of more than 200 bytes -/
mutual
def tlong : Tm → Bool
  | .mk _ _ s l => decide (200 < s.size) || tlongL l
def tlongL : List Tm → Bool
  | [] => false
  | t :: r => tlong t || tlongL r
end
theorem tlong_mk (k n : Int) (s : ByteArray) (l : List Tm) : tlong (.mk k n s l) = (decide (200 < s.size) || tlongL l) := by rw [tlong]
theorem tlongL_nil : tlongL [] = false := by rw [tlongL]
theorem tlongL_cons (t : Tm) (l : List Tm) : tlongL (t :: l) = (tlong t || tlongL l) := by rw [tlongL]
theorem tlongL_append (l l' : List Tm) : tlongL (l ++ l') = (tlongL l || tlongL l') := by
  induction l with
  | nil => simp [tlongL_nil]
  | cons t l ih => simp only [List.cons_append, tlongL_cons, ih, Bool.or_assoc]
theorem tlongL_take_succ {l : List Tm} {k : Nat} {u : Tm} (h : l[k]? = some u) : tlongL (l.take (k + 1)) = (tlongL (l.take k) || tlong u) := by
  rw [take_snoc_of h, tlongL_append, tlongL_cons, tlongL_nil, Bool.or_false]
theorem tlongL_of {l : List Tm} {u : Tm} (h : u ∈ l) (hl : tlong u = true) : tlongL l = true := by
  induction l with
  | nil => simp at h
  | cons t l ih =>
    rw [tlongL_cons]
    rcases List.mem_cons.1 h with rfl | h
    · simp [hl]
    · simp [ih h]
theorem tlongL_no {l : List Tm} {u : Tm} (hl : tlongL l = false) (h : u ∈ l) : tlong u = false := by
  cases hu : tlong u with
  | false => rfl
  | true => rw [tlongL_of h hu] at hl; cases hl
/-- More than m parts together, or a text of more than 200 bytes. -/
def largeB (l : List Tm) (m : Nat) : Bool := decide (m < nodesL l) || tlongL l
def largeT (t : Tm) (m : Nat) : Bool := decide (m < nodes t) || tlong t

/-! ### A term and all its parts, each ahead of its own -/
mutual
def subs : Tm → List Tm
  | .mk k n s l => .mk k n s l :: subsL l
def subsL : List Tm → List Tm
  | [] => []
  | t :: r => subs t ++ subsL r
end
theorem subs_eq (t : Tm) : subs t = t :: subsL t.l := by cases t; rw [subs]; rfl
theorem subsL_nil : subsL [] = [] := by rw [subsL]
theorem subsL_cons (t : Tm) (l : List Tm) : subsL (t :: l) = subs t ++ subsL l := by rw [subsL]
theorem subsL_append (l l' : List Tm) : subsL (l ++ l') = subsL l ++ subsL l' := by
  induction l with
  | nil => simp [subsL_nil]
  | cons t l ih => simp only [List.cons_append, subsL_cons, ih, List.append_assoc]
theorem subs_length : ∀ t : Tm, (subs t).length = nodes t := by
  refine Tm.ind fun t ih => ?_
  have hl : ∀ l : List Tm, (∀ u ∈ l, (subs u).length = nodes u) → (subsL l).length = nodesL l := fun l h => by
    induction l with
    | nil => simp [subsL_nil, nodesL_nil]
    | cons a r ihr => rw [subsL_cons, nodesL_cons, List.length_append, h a (List.mem_cons_self ..), ihr (fun u hu => h u (List.mem_cons_of_mem _ hu))]
  rw [subs_eq, nodes_eq, List.length_cons, hl _ ih]
theorem subsL_length (l : List Tm) : (subsL l).length = nodesL l := by
  induction l with
  | nil => simp [subsL_nil, nodesL_nil]
  | cons a r ihr => rw [subsL_cons, nodesL_cons, List.length_append, subs_length, ihr]
theorem nodesL_reverse (l : List Tm) : nodesL l.reverse = nodesL l := by
  induction l with
  | nil => rfl
  | cons a r ih => rw [List.reverse_cons, nodesL_append, ih, nodesL_cons, nodesL_cons, nodesL_nil]; omega

/-! ### Words -/
def ownN (t : Tm) : Int := if t.k = 7 ∨ t.k = 5 then 2 else 1
theorem ownN_range (t : Tm) : 1 ≤ ownN t ∧ ownN t ≤ 2 := by unfold ownN; split <;> omega
/-- Has it parts that count? -/
def hasB (t : Tm) : Bool := decide (t.k = 7 ∨ t.k = 5 ∨ t.k = 9)
mutual
def wds : Tm → Int
  | .mk k n s l => ownN (.mk k n s l) + if hasB (.mk k n s l) = true then wdsL l else 0
def wdsL : List Tm → Int
  | [] => 0
  | t :: r => wds t + wdsL r
end
theorem wds_mk (k n : Int) (s : ByteArray) (l : List Tm) : wds (.mk k n s l) = ownN (.mk k n s l) + if hasB (.mk k n s l) = true then wdsL l else 0 := by rw [wds]
theorem wds_eq (t : Tm) : wds t = ownN t + if hasB t = true then wdsL t.l else 0 := by cases t; rw [wds]; rfl
theorem wdsL_nil : wdsL [] = 0 := by rw [wdsL]
theorem wdsL_cons (t : Tm) (l : List Tm) : wdsL (t :: l) = wds t + wdsL l := by rw [wdsL]
theorem wdsL_append (l l' : List Tm) : wdsL (l ++ l') = wdsL l + wdsL l' := by
  induction l with
  | nil => simp [wdsL_nil]
  | cons t l ih => simp only [List.cons_append, wdsL_cons, ih]; omega
theorem wdsL_take_succ {l : List Tm} {k : Nat} {u : Tm} (h : l[k]? = some u) : wdsL (l.take (k + 1)) = wdsL (l.take k) + wds u := by
  rw [take_snoc_of h, wdsL_append, wdsL_cons, wdsL_nil]; omega
theorem wds_range : ∀ t : Tm, 1 ≤ wds t ∧ wds t ≤ 2 * nodes t := by
  refine Tm.ind fun t ih => ?_
  have hl : ∀ l : List Tm, (∀ u ∈ l, 1 ≤ wds u ∧ wds u ≤ 2 * nodes u) → 0 ≤ wdsL l ∧ wdsL l ≤ 2 * nodesL l := fun l h => by
    induction l with
    | nil => simp [wdsL_nil, nodesL_nil]
    | cons a r ihr =>
      have h1 := h a (List.mem_cons_self ..)
      have h2 := ihr (fun u hu => h u (List.mem_cons_of_mem _ hu))
      rw [wdsL_cons, nodesL_cons]; omega
  have h1 := hl t.l ih
  have h2 := ownN_range t
  rw [wds_eq, nodes_eq]
  split <;> omega
theorem wdsL_range (l : List Tm) : 0 ≤ wdsL l ∧ wdsL l ≤ 2 * nodesL l := by
  induction l with
  | nil => simp [wdsL_nil, nodesL_nil]
  | cons a r ihr => have h1 := wds_range a; rw [wdsL_cons, nodesL_cons]; omega

/-! ### Rows of terms of our own -/
/-- The cells of values that lie in a row. -/
def flat (vs : List Value) : List Value := vs.flatMap fun v => v.cells.toList
theorem flat_nil : flat [] = [] := rfl
theorem flat_snoc (vs : List Value) (v : Value) : flat (vs ++ [v]) = flat vs ++ v.cells.toList := by simp [flat]
theorem flat_append (vs us : List Value) : flat (vs ++ us) = flat vs ++ flat us := by simp [flat]
theorem TAt.cells4 {w : World} {F : Nat → Prop} {t : Tm} {v : Value} (h : TAt w F t v) : v.cells.toList.length = 4 := by
  obtain ⟨A, c, rfl, _⟩ := h.inv
  rfl
/-- Lists of terms and their values. -/
inductive TsVs (w : World) (F : Nat → Prop) : List Tm → List Value → Prop
  | nil : TsVs w F [] []
  | cons {t : Tm} {v : Value} {l : List Tm} {vs : List Value} (h : TAt w F t v) (r : TsVs w F l vs) : TsVs w F (t :: l) (v :: vs)
section
variable {w w' : World} {F G : Nat → Prop} {l l' : List Tm} {vs vs' : List Value}
theorem TsVs.len (h : TsVs w F l vs) : vs.length = l.length := by
  induction h with
  | nil => rfl
  | cons _ _ ih => simp [ih]
theorem TsVs.flat_len (h : TsVs w F l vs) : (flat vs).length = l.length * 4 := by
  induction h with
  | nil => rfl
  | cons h r ih =>
    rw [show flat (_ :: _) = _ ++ flat _ from rfl, List.length_append, h.cells4, ih]
    simp; omega
theorem TsVs.append (h : TsVs w F l vs) (h' : TsVs w F l' vs') : TsVs w F (l ++ l') (vs ++ vs') := by
  induction h with
  | nil => exact h'
  | cons h r ih => exact .cons h ih
theorem TsVs.one {t : Tm} {v : Value} (h : TAt w F t v) : TsVs w F [t] [v] := .cons h .nil
theorem TsVs.mono (h : TsVs w F l vs) (hF : ∀ b, F b → G b) : TsVs w G l vs := by
  induction h with
  | nil => exact .nil
  | cons h r ih => exact .cons (h.mono hF) ih
theorem TsVs.keep (h : TsVs w F l vs) (hk : ∀ p : Addr, F p.block → w'.cell? p = w.cell? p) : TsVs w' F l vs := by
  induction h with
  | nil => exact .nil
  | cons h r ih => exact .cons (h.keep hk) ih
theorem TsVs.at_ (h : TsVs w F l vs) {i : Nat} {u : Tm} (hu : l[i]? = some u) : ∃ v, vs[i]? = some v ∧ TAt w F u v ∧ ∀ j, j < 4 → (flat vs)[i * 4 + j]? = v.cells.toList[j]? := by
  induction h generalizing i with
  | nil => simp at hu
  | @cons t v l vs h r ih =>
    rw [show flat (v :: vs) = v.cells.toList ++ flat vs from rfl]
    cases i with
    | zero =>
      simp at hu
      subst hu
      refine ⟨v, rfl, h, fun j hj => ?_⟩
      rw [List.getElem?_append_left (by rw [h.cells4]; omega)]
      simp
    | succ i =>
      simp at hu
      obtain ⟨v', h1, h2, h3⟩ := ih hu
      refine ⟨v', by simpa using h1, h2, fun j hj => ?_⟩
      rw [List.getElem?_append_right (by rw [h.cells4]; omega), h.cells4, show (i + 1) * 4 + j - 4 = i * 4 + j by omega]
      exact h3 j hj
theorem TsVs.take (h : TsVs w F l vs) (n : Nat) : TsVs w F (l.take n) (vs.take n) := by
  induction h generalizing n with
  | nil => simp; exact .nil
  | cons h r ih =>
    cases n with
    | zero => exact .nil
    | succ n => exact .cons h (ih n)
theorem TsVs.flat_take (h : TsVs w F l vs) (n : Nat) : flat (vs.take n) = (flat vs).take (n * 4) := by
  induction h generalizing n with
  | nil => simp [flat]
  | @cons t v l vs h r ih =>
    cases n with
    | zero => simp [flat]
    | succ n =>
      rw [show flat (v :: vs) = v.cells.toList ++ flat vs from rfl, List.take_succ_cons, show flat (v :: vs.take n) = v.cells.toList ++ flat (vs.take n) from rfl, ih, List.take_append, h.cells4, show (n + 1) * 4 - 4 = n * 4 by omega, List.take_of_length_le (l := v.cells.toList) (by rw [h.cells4]; omega)]
theorem TsVs.reverse (h : TsVs w F l vs) : TsVs w F l.reverse vs.reverse := by
  induction h with
  | nil => exact .nil
  | cons h r ih => rw [List.reverse_cons, List.reverse_cons]; exact ih.append (.one h)
theorem TsAt.cells_from {A : Option Addr} : ∀ (l : List Tm) (j : Nat), (∀ i u, l[i]? = some u → ∃ v, Slot w F A (j + i) v ∧ TAt w F u v) →
    ∃ vs, TsVs w F l vs ∧ ∀ i u, (flat vs)[i]? = some u → ∃ b o, A = some ⟨b, o, none⟩ ∧ F b ∧ w.cell? ⟨b, o + (j * 4 + i), none⟩ = some u
  | [], j, _ => ⟨[], .nil, fun i u hu => by simp [flat] at hu⟩
  | t :: l, j, h => by
    obtain ⟨v, ⟨b, o, x0, x1, x2, x3, hA, hb, rfl, h0, h1, h2, h3⟩, ht⟩ := h 0 t rfl
    obtain ⟨vs, e1, e2⟩ := cells_from l (j + 1) (fun i u hu => by rw [show j + 1 + i = j + (i + 1) by omega]; exact h (i + 1) u (by simpa using hu))
    refine ⟨.agg #[x0, x1, x2, x3] :: vs, .cons ht e1, fun i u hu => ?_⟩
    rw [show flat (Value.agg #[x0, x1, x2, x3] :: vs) = [x0, x1, x2, x3] ++ flat vs from rfl] at hu
    match i, hu with
    | 0, hu => simp at hu; subst hu; exact ⟨b, o, hA, hb, h0⟩
    | 1, hu => simp at hu; subst hu; exact ⟨b, o, hA, hb, h1⟩
    | 2, hu => simp at hu; subst hu; exact ⟨b, o, hA, hb, h2⟩
    | 3, hu => simp at hu; subst hu; exact ⟨b, o, hA, hb, h3⟩
    | i + 4, hu =>
      obtain ⟨b', o', g1, g2, g3⟩ := e2 i u (by simpa using hu)
      exact ⟨b', o', g1, g2, by rw [show j * 4 + (i + 4) = (j + 1) * 4 + i by omega]; exact g3⟩
/-- A slice of terms as a list of cells. -/
theorem TsAt.reads {A : Option Addr} {B : Nat} (h : TsAt w F A l) (hB : ∀ b, F b → b < B) : ∃ vs, TsVs w F l vs ∧ Reads w B 4 A l.length (flat vs) := by
  obtain ⟨vs, h1, h2⟩ := TsAt.cells_from l 0 (fun i u hu => by rw [Nat.zero_add]; exact h i u hu)
  refine ⟨vs, h1, h1.flat_len, fun hn => ?_⟩
  obtain ⟨b, o, hA, hb, _⟩ := h2 0 ((flat vs)[0]'(by rw [h1.flat_len]; omega)) (List.getElem?_eq_getElem _)
  refine ⟨⟨b, o, none⟩, hA, hB b hb, fun j u hj => ?_⟩
  obtain ⟨b', o', hA', _, hc⟩ := h2 j u hj
  rw [hA] at hA'
  injection hA' with hA'
  injection hA' with e1 e2
  subst e1 e2
  rw [add_plain']
  simpa using hc
theorem TsVs.one_cell (h : TsVs w F l vs) : ∀ u ∈ flat vs, u.oneCell' = true := by
  induction h with
  | nil => intro u hu; simp [flat] at hu
  | @cons t v l vs h r ih =>
    intro u hu
    rw [show flat (v :: vs) = v.cells.toList ++ flat vs from rfl] at hu
    rcases List.mem_append.1 hu with hu | hu
    · obtain ⟨A, c, rfl, _⟩ := h.inv
      simp [tv, Value.cells] at hu
      rcases hu with rfl | rfl | rfl | rfl <;> rfl
    · exact ih u hu
/-- A row of our own of terms: as a slice that reads. -/
theorem TsVs.slot {base : Nat} {T : TypeId} {n c : Nat} {A : Option Addr} (h : TsVs w F l vs) (hr : w.ownsRow base T 4 (.slice A n c) n (flat vs)) (hn : n = l.length) (hF : ∀ r, (Value.slice A n c).ownBlock = some r → F r) : TsAt w F A l := by
  intro i u hu
  have hi : i < l.length := (List.getElem?_eq_some_iff.1 hu).1
  obtain ⟨v, hv, ht, hj⟩ := h.at_ hu
  obtain ⟨g, cap, he, _, hlt⟩ := hr.form (by omega)
  have hcell := hr.cells (g := g) (by rw [he]; rfl)
  have hA : A = some ⟨g, 0, none⟩ := by injection he
  subst hA
  obtain ⟨A', c', rfl, ok, hl⟩ := ht.inv
  refine ⟨_, ⟨g, 0, _, _, _, _, rfl, hF g rfl, rfl, ?_, ?_, ?_, ?_⟩, ht⟩
  · have := hcell (i * 4 + 0) _ ((hj 0 (by omega)).trans rfl)
    simpa [add_plain'] using this
  · have := hcell (i * 4 + 1) _ ((hj 1 (by omega)).trans rfl)
    simpa [add_plain'] using this
  · have := hcell (i * 4 + 2) _ ((hj 2 (by omega)).trans rfl)
    simpa [add_plain'] using this
  · have := hcell (i * 4 + 3) _ ((hj 3 (by omega)).trans rfl)
    simpa [add_plain'] using this
end

/-! ### A row of our own of terms, that grows -/
/-- Since w was. -/
def Fr (w w' : World) (b : Nat) : Prop := w.heap.size ≤ b ∧ b < w'.heap.size
/-- v is a row of our own, from block B on, of the terms l, whose own blocks satisfy Q. -/
def TRow (w : World) (B : Nat) (Q : Nat → Prop) (v : Value) (l : List Tm) : Prop :=
  ∃ G vs, TsVs w G l vs ∧ (∀ b, G b → b < w.heap.size ∧ Q b ∧ v.ownBlock ≠ some b) ∧ w.ownsRow B 28 4 v l.length (flat vs)
section
variable {w w' w2 w3 : World} {B : Nat} {Q : Nat → Prop} {v v' : Value} {l : List Tm}
theorem TRow.none_ (w : World) (B : Nat) (Q : Nat → Prop) : TRow w B Q (.slice none 0 0) [] :=
  ⟨fun _ => False, [], .nil, fun b h => h.elim, World.ownsRow_nil _ _ _ _⟩
theorem TRow.form (h : TRow w B Q v l) : ∃ A c, v = .slice A l.length c ∧ l.length ≤ c ∧ c ≤ maxLen ∧ (A = none → c = 0) := by
  obtain ⟨G, vs, _, _, hR⟩ := h
  rcases hR.2 with ⟨rfl, hn⟩ | ⟨g, cap, cur, rfl, hg, hh, h1, h2, _⟩
  · exact ⟨none, 0, by rw [hn], by omega, by simp [maxLen], fun _ => rfl⟩
  · exact ⟨_, _, rfl, h1, h2, fun h => by cases h⟩
/-- What the row's blocks are: its own, and its terms'. -/
theorem TRow.slAt (h : TRow w B Q v l) {F : Nat → Prop} (hQ : ∀ b, b < w.heap.size → Q b → F b) (hB : ∀ b, b < w.heap.size → B ≤ b → F b) : SlAt w F v l := by
  obtain ⟨A, c, rfl, h1, h2, h3⟩ := h.form
  obtain ⟨G, vs, hV, hG, hR⟩ := h
  exact ⟨A, c, rfl, h1, h2, h3, (hV.mono fun b hb => hQ b (hG b hb).1 (hG b hb).2.1).slot hR rfl (fun r hr => hB r (hR.lt r hr).2 (hR.lt r hr).1)⟩
theorem TRow.below {n : Nat} (h : TRow w B Q v l) (hb : Below w.heap.size w w') : TRow w' B Q v l := by
  obtain ⟨G, vs, hV, hG, hR⟩ := h
  exact ⟨G, vs, hV.keep fun p hp => hb.cell (hG _ hp).1, fun b hb' => ⟨Nat.lt_of_lt_of_le (hG b hb').1 hb.size, (hG b hb').2⟩, ownsRow_below hR hb (fun r hr => (hR.lt r hr).2)⟩
/-- One more term, whose blocks are not the row's. -/
theorem TRow.snoc {G H : Nat → Prop} {vs : List Value} {u : Tm} {x : Value} {o : Obj} (hV : TsVs w G l vs) (hG : ∀ b, G b → b < w.heap.size ∧ Q b ∧ v.ownBlock ≠ some b) (hx : TAt w H u x) (hH : ∀ b, H b → b < w.heap.size ∧ Q b ∧ v.ownBlock ≠ some b)
    (hg : (w.alloc o).grownBy w3 v.ownBlock) (hR : w3.ownsRow B 28 4 v' (l.length + 1) (flat vs ++ x.cells.toList)) (hat : v'.ownBlock = v.ownBlock ∨ v'.ownBlock = some (w.alloc o).heap.size) : TRow w3 B Q v' (l ++ [u]) := by
  have hsz : w.heap.size + 1 ≤ w3.heap.size := by have := hg.size; simpa using this
  have hk : ∀ b, b < w.heap.size → v.ownBlock ≠ some b → w3.heap[b]? = w.heap[b]? := fun b hb hn => (hg.block b (by simp; omega) (fun e => hn e.symm)).trans (Below.heap_alloc w o b hb)
  refine ⟨fun b => G b ∨ H b, vs ++ [x], ?_, fun b hb => ?_, ?_⟩
  · refine TsVs.append ((hV.mono (fun b h => .inl h)).keep fun p hp => ?_) (.one ((hx.mono (fun b h => .inr h)).keep fun p hp => ?_))
    · rcases hp with hp | hp
      · exact World.cell?_of_block (w := w) (hk _ (hG _ hp).1 (hG _ hp).2.2)
      · exact World.cell?_of_block (w := w) (hk _ (hH _ hp).1 (hH _ hp).2.2)
    · rcases hp with hp | hp
      · exact World.cell?_of_block (w := w) (hk _ (hG _ hp).1 (hG _ hp).2.2)
      · exact World.cell?_of_block (w := w) (hk _ (hH _ hp).1 (hH _ hp).2.2)
  · have h0 : b < w.heap.size ∧ Q b ∧ v.ownBlock ≠ some b := hb.elim (hG b) (hH b)
    refine ⟨by omega, h0.2.1, ?_⟩
    rcases hat with h | h
    · rw [h]; exact h0.2.2
    · rw [h]; intro e; injection e with e; simp at e; omega
  · rw [List.length_append, flat_snoc]
    exact hR
end
theorem cells4_new (w : World) (x0 x1 x2 x3 : Value) (t : TypeId) : ∀ j u, [x0, x1, x2, x3][j]? = some u → (w.alloc (.cells #[x0, x1, x2, x3] t)).cell? ((⟨w.heap.size, 0, none⟩ : Addr).add j) = some u := by
  intro j u hj
  rw [add_plain', (Blk.new w t #[x0, x1, x2, x3]).cell]
  simpa using hj
theorem one4 (a b : Int) (s : ByteArray) (A : Option Addr) (n c : Nat) : ∀ u ∈ [Value.int .i64 a, .int .i64 b, .string s, .slice A n c], u.oneCell' = true := by
  simp [Value.oneCell']
/-- A block of a term's four cells, read cell by cell. -/
theorem Blk.four {w : World} {g : Nat} {t : TypeId} {x0 x1 x2 x3 : Value} (h : Blk w g t #[x0, x1, x2, x3]) :
    w.cell? ⟨g, 0, none⟩ = some x0 ∧ w.cell? ⟨g, 1, none⟩ = some x1 ∧ w.cell? ⟨g, 2, none⟩ = some x2 ∧ w.cell? ⟨g, 3, none⟩ = some x3 ∧ w.frozen? ⟨g, 0, none⟩ = false ∧ w.frozen? ⟨g, 1, none⟩ = false ∧ w.frozen? ⟨g, 2, none⟩ = false ∧ w.frozen? ⟨g, 3, none⟩ = false :=
  ⟨by rw [h.cell]; rfl, by rw [h.cell]; rfl, by rw [h.cell]; rfl, by rw [h.cell]; rfl, h.frozen _, h.frozen _, h.frozen _, h.frozen _⟩
theorem cell_far (w : World) (p q : Addr) (u : Value) (h : q.block ≠ p.block) : (w.setCell p u).cell? q = w.cell? q := World.cell?_setCell_other w p q u (fun e => h (by rw [e]))
/-- A whole term stored into block g. -/
def put4 (w : World) (g : Nat) (y0 y1 y2 y3 : Value) : World := (((w.setCell ⟨g, 0, none⟩ y0).setCell ⟨g, 1, none⟩ y1).setCell ⟨g, 2, none⟩ y2).setCell ⟨g, 3, none⟩ y3
theorem put4_size (w : World) (g : Nat) (y0 y1 y2 y3 : Value) : (put4 w g y0 y1 y2 y3).heap.size = w.heap.size := by simp [put4, World.setCell]
theorem put4_cell (w : World) (g : Nat) (y0 y1 y2 y3 : Value) (q : Addr) (h : q.block ≠ g) : (put4 w g y0 y1 y2 y3).cell? q = w.cell? q := by
  unfold put4
  rw [cell_far _ _ _ _ h, cell_far _ _ _ _ h, cell_far _ _ _ _ h, cell_far _ _ _ _ h]
theorem put4_below {B : Nat} {w0 w : World} (h : Below B w0 w) {g : Nat} (hg : B ≤ g) (y0 y1 y2 y3 : Value) : Below B w0 (put4 w g y0 y1 y2 y3) :=
  (((h.setCell (p := ⟨g, 0, none⟩) hg _).setCell (p := ⟨g, 1, none⟩) hg _).setCell (p := ⟨g, 2, none⟩) hg _).setCell (p := ⟨g, 3, none⟩) hg _
theorem put4_blk {w : World} {g : Nat} {t : TypeId} {x0 x1 x2 x3 : Value} (h : Blk w g t #[x0, x1, x2, x3]) (y0 y1 y2 y3 : Value) : Blk (put4 w g y0 y1 y2 y3) g t #[y0, y1, y2, y3] := by
  have := (((h.set_ 0 y0).set_ 1 y1).set_ 2 y2).set_ 3 y3
  simpa [put4] using this
theorem put4_far {w : World} {g g' : Nat} {t : TypeId} {cs : Array Value} (h : Blk w g t cs) (hn : g ≠ g') (y0 y1 y2 y3 : Value) : Blk (put4 w g' y0 y1 y2 y3) g t cs := (((h.far hn y0).far hn y1).far hn y2).far hn y3
theorem put4_keep {F : Nat → Prop} {w0 w : World} (h : Keep F w0 w) {g : Nat} (hg : F g ∨ w0.heap.size ≤ g) (y0 y1 y2 y3 : Value) : Keep F w0 (put4 w g y0 y1 y2 y3) :=
  (((h.setCell (p := ⟨g, 0, none⟩) hg _).setCell (p := ⟨g, 1, none⟩) hg _).setCell (p := ⟨g, 2, none⟩) hg _).setCell (p := ⟨g, 3, none⟩) hg _
/-- A new block that holds terms one behind the other. -/
theorem lit_rowF {w : World} {F : Nat → Prop} {l : List Tm} {vs : List Value} (h : TsVs w F l vs) (hF : ∀ b, F b → b < w.heap.size) (hl : l.length ≤ maxLen) (arr : Array Value) (ha : arr.toList = flat vs) :
    TsAt (w.alloc (.cells arr 28)) (fun b => F b ∨ b = w.heap.size) (some ⟨w.heap.size, 0, none⟩) l := by
  have hs : arr.size = l.length * 4 := by rw [← Array.length_toList, ha, h.flat_len]
  have hr := World.ownsRow_lit (base := 0) (e := 28) (size := 4) w arr l.length (Nat.zero_le _) hl hs
  rw [ha] at hr
  exact ((h.keep fun p hp => World.cell?_alloc_lt w _ p (hF _ hp)).mono (fun b hb => .inl hb)).slot hr rfl (fun r hr => by injection hr with hr; exact .inr hr.symm)
theorem lit_row {w : World} {l : List Tm} {vs : List Value} (h : TsVs w (· < w.heap.size) l vs) (hl : l.length ≤ maxLen) (arr : Array Value) (ha : arr.toList = flat vs) :
    TsA (w.alloc (.cells arr 28)) (some ⟨w.heap.size, 0, none⟩) l := (lit_rowF h (fun b h => h) hl arr ha).mono (fun b hb => by simp; omega)
theorem wf0 : (Lit.int .i64 0).wf = true := by decide
theorem wf7 : (Lit.int .i64 7).wf = true := by decide
theorem wf9 : (Lit.int .i64 9).wf = true := by decide
theorem se0 : (ByteArray.empty).size ≤ maxLen := by decide
def tnum (n : Int) : Tm := .mk 1 n .empty []
def tsym (s : ByteArray) : Tm := .mk 2 0 s []
def ttup (l : List Tm) : Tm := .mk 7 0 .empty l
def tnil : Tm := .mk 8 0 .empty []
def tcons (a b : Tm) : Tm := .mk 9 0 .empty [a, b]
/-- A list with an end. -/
def tlist (l : List Tm) (e : Tm) : Tm := l.foldr tcons e
theorem ta_leaf (w : World) (k n : Int) (s : ByteArray) (hk : (Lit.int .i64 k).wf = true) (hn : (Lit.int .i64 n).wf = true) (hs : s.size ≤ maxLen) : TA w (.mk k n s []) (.agg #[.int .i64 k, .int .i64 n, .string s, .slice none 0 0]) :=
  TAt.of (t := .mk k n s []) ⟨hk, hn, hs, Nat.le_refl _, by simp [maxLen], fun _ => rfl⟩ (TsAt.nil _ _ _)
theorem ta_num (w : World) (n : Int) (hn : (Lit.int .i64 n).wf = true) : TA w (tnum n) (.agg #[.int .i64 1, .int .i64 n, .string .empty, .slice none 0 0]) := ta_leaf w 1 n .empty (by decide) hn (by decide)
theorem ta_sym (w : World) (s : ByteArray) (hs : s.size ≤ maxLen) : TA w (tsym s) (.agg #[.int .i64 2, .int .i64 0, .string s, .slice none 0 0]) := ta_leaf w 2 0 s (by decide) (by decide) hs
theorem ta_nil (w : World) : TA w tnil (.agg #[.int .i64 8, .int .i64 0, .string .empty, .slice none 0 0]) := ta_leaf w 8 0 .empty (by decide) (by decide) (by decide)
theorem ta_zero (w : World) : TA w (.mk 0 0 .empty []) (.agg #[.int .i64 0, .int .i64 0, .string .empty, .slice none 0 0]) := ta_leaf w 0 0 .empty (by decide) (by decide) (by decide)
theorem ta_tup {w : World} {l : List Tm} {A : Option Addr} {c : Nat} (h : TsA w A l) (hl : l.length ≤ c) (hc : c ≤ maxLen) (hA : A = none → c = 0) : TA w (ttup l) (.agg #[.int .i64 7, .int .i64 0, .string .empty, .slice A l.length c]) :=
  TAt.of (t := ttup l) ⟨wf7, wf0, se0, hl, hc, hA⟩ h
theorem ta_cons {w : World} {a b : Tm} {x y : Value} (hx : TA w a x) (hy : TA w b y) (arr : Array Value) (ha : arr.toList = flat [x, y]) :
    TA (w.alloc (.cells arr 28)) (tcons a b) (.agg #[.int .i64 9, .int .i64 0, .string .empty, .slice (some ⟨w.heap.size, 0, none⟩) 2 2]) :=
  TAt.of (t := tcons a b) ⟨wf9, wf0, se0, by simp [tcons], by simp [maxLen], fun h => by cases h⟩ (lit_row (.cons hx (.one hy)) (by simp [maxLen]) arr ha)
theorem ta_consF {w : World} {F : Nat → Prop} {a b : Tm} {x y : Value} (hx : TAt w F a x) (hy : TAt w F b y) (hF : ∀ b, F b → b < w.heap.size) (arr : Array Value) (ha : arr.toList = flat [x, y]) :
    TAt (w.alloc (.cells arr 28)) (fun b => F b ∨ b = w.heap.size) (tcons a b) (.agg #[.int .i64 9, .int .i64 0, .string .empty, .slice (some ⟨w.heap.size, 0, none⟩) 2 2]) :=
  TAt.of (t := tcons a b) ⟨wf9, wf0, se0, by simp [tcons], by simp [maxLen], fun h => by cases h⟩ (lit_rowF (.cons hx (.one hy)) hF (by simp [maxLen]) arr ha)
theorem nodes_cons (a b : Tm) : nodes (tcons a b) = nodes a + nodes b + 1 := by unfold tcons; rw [nodes_mk, nodesL_cons, nodesL_cons, nodesL_nil]; omega
theorem nodes_list (l : List Tm) (e : Tm) : nodes (tlist l e) = nodesL l + l.length + nodes e := by
  induction l with
  | nil => simp [tlist, nodesL_nil]
  | cons t l ih => rw [show tlist (t :: l) e = tcons t (tlist l e) from rfl, nodes_cons, ih, nodesL_cons]; simp; omega
theorem tlist_drop {l : List Tm} {e : Tm} {i : Nat} {u : Tm} (h : l[i]? = some u) : tlist (l.drop i) e = tcons u (tlist (l.drop (i + 1)) e) := by
  obtain ⟨hi, rfl⟩ := List.getElem?_eq_some_iff.1 h
  rw [List.drop_eq_getElem_cons hi]
  rfl
theorem ownsRow_less {w : World} {base : Nat} {e : TypeId} {size g n cap : Nat} {xs : List Value} (h : w.ownsRow base e size (.slice (some ⟨g, 0, none⟩) (n + 1) cap) (n + 1) xs) : w.ownsRow base e size (.slice (some ⟨g, 0, none⟩) n cap) n (xs.take (n * size)) := by
  refine ⟨by rw [List.length_take, h.1]; exact Nat.min_eq_left (Nat.mul_le_mul_right _ (by omega)), ?_⟩
  rcases h.2 with ⟨h', _⟩ | ⟨g', cap', cur, h', hb, hg, hnc, hcm, hcs, htake⟩
  · simp at h'
  · simp only [Value.slice.injEq, Option.some.injEq, Addr.mk.injEq, and_true, true_and] at h'
    obtain ⟨rfl, rfl⟩ := h'
    refine .inr ⟨g, cap, cur, rfl, hb, hg, by omega, hcm, hcs, ?_⟩
    rw [← htake, List.take_take, Nat.min_eq_left (Nat.mul_le_mul_right _ (by omega))]

/-! ### Arguments opened -/
section
variable {H : Type} {enc : TypeId × Value → H} {P : Program} {W : World}
theorem open_tm {e st : TypeId} {f0 f1 f2 f3 : Field} {base : Nat} {held : Bool} (he : P.underlying e = some (.struct #[f0, f1, f2, f3])) (hs : P.underlying st = some (.slice e)) (ce : P.cellsOf e = 4)
    (o0 : f0.offset = 0) (o1 : f1.offset = 1) (o2 : f2.offset = 2) (o3 : f3.offset = 3) (c0 : P.cellsOf f0.type = 1) (c1 : P.cellsOf f1.type = 1) (c2 : P.cellsOf f2.type = 1) (c3 : P.cellsOf f3.type = 1)
    (i0 : P.underlying f0.type = some (.int .i64)) (i1 : P.underlying f1.type = some (.int .i64)) (i2 : P.underlying f2.type = some .string) (i3 : f3.type = st) :
    ∀ (fuel : Nat) (cs : List Value) (x : DataW H × List MemPlace), DataW.trod enc P W base (fun _ => true) held fuel e cs = some x → ∃ t x0 x1 x2 x3, cs = [x0, x1, x2, x3] ∧ TAt W (· < W.heap.size) t (.agg #[x0, x1, x2, x3]) := by
  intro fuel
  induction fuel using Nat.strongRecOn with
  | _ fuel ih =>
    intro cs x h
    obtain ⟨xs, m, rfl, _, hl, hlen, hf⟩ := DataW.trod_struct he h
    rw [ce] at hl
    match xs, hlen, cs, hl with
    | [y0, y1, y2, y3], _, [v0, v1, v2, v3], _ =>
      have g0 := hf 0 f0 rfl
      have g1 := hf 1 f1 rfl
      have g2 := hf 2 f2 rfl
      have g3 := hf 3 f3 rfl
      simp [o0, o1, o2, o3, c0, c1, c2, c3] at g0 g1 g2 g3
      obtain ⟨k, hk, _, wk⟩ := DataW.trod_int i0 g0
      obtain ⟨n, hn, _, wn⟩ := DataW.trod_int i1 g1
      obtain ⟨s, hs', _, ws⟩ := DataW.trod_string i2 g2
      simp only [List.cons.injEq, and_true] at hk hn hs'
      subst hk hn hs'
      rw [i3] at g3
      rcases DataW.trod_slice hs g3 with ⟨hcs, _⟩ | ⟨a, len, cap, elems, rest, q, hq, hcs, _, hb, hlc, hcm, hel, helem, _, _⟩
      · simp only [List.cons.injEq, and_true] at hcs
        subst hcs
        exact ⟨.mk k n s [], _, _, _, _, rfl, TAt.of (t := .mk k n s []) ⟨wk, wn, ws, Nat.le_refl _, by simp [maxLen], fun _ => rfl⟩ (TsAt.nil _ _ _)⟩
      · simp only [List.cons.injEq, and_true] at hcs
        subst hcs
        have hspot : ∀ i, i < len → a.spot = none := fun i hi => by
          have h1 := helem 0 (by omega)
          rw [List.getElem?_eq_getElem (by omega)] at h1
          obtain ⟨cs', h2, h3⟩ := Option.bind_eq_some_iff.1 h1
          obtain ⟨u, z0, z1, z2, z3, rfl, hu⟩ := ih q (by omega) cs' _ h3
          obtain ⟨_, _, hcell⟩ := World.cells?_some h2
          rw [ce] at hcell
          have := World.cell?_spot (hcell 0 (by omega))
          simpa [Addr.add] using this
        have hall : ∀ i, i < len → ∃ u v, Slot W (· < W.heap.size) (some a) i v ∧ TAt W (· < W.heap.size) u v := fun i hi => by
          have h1 := helem i hi
          rw [List.getElem?_eq_getElem (by omega)] at h1
          obtain ⟨cs', h2, h3⟩ := Option.bind_eq_some_iff.1 h1
          obtain ⟨u, z0, z1, z2, z3, rfl, hu⟩ := ih q (by omega) cs' _ h3
          obtain ⟨_, _, hcell⟩ := World.cells?_some h2
          rw [ce] at hcell
          have d0 := hcell 0 (by omega)
          have d1 := hcell 1 (by omega)
          have d2 := hcell 2 (by omega)
          have d3 := hcell 3 (by omega)
          simp only [ce, add_of_add] at d0 d1 d2 d3
          have hlt := World.block_lt_of_cell? _ _ d0
          rw [block_of_add] at hlt
          obtain ⟨b, off, sp⟩ := a
          obtain rfl : sp = none := hspot i hi
          rw [add_plain'] at d0 d1 d2 d3
          exact ⟨u, _, ⟨b, off, _, _, _, _, rfl, hlt, rfl, d0, d1, d2, d3⟩, hu⟩
        obtain ⟨U, hU⟩ := choose_lt (p := fun i u => ∃ v, Slot W (· < W.heap.size) (some a) i v ∧ TAt W (· < W.heap.size) u v) hall
        refine ⟨.mk k n s ((List.range len).map U), _, _, _, _, rfl, ?_⟩
        have := TAt.of (w := W) (F := (· < W.heap.size)) (t := .mk k n s ((List.range len).map U)) (A := some a) (c := cap) ⟨wk, wn, ws, by simpa using hlc, hcm, fun h => by cases h⟩ (fun i u hu => by
          simp only [Tm.l_mk, List.getElem?_map] at hu
          have hi : i < len := by
            rcases Nat.lt_or_ge i len with h | h
            · exact h
            · rw [List.getElem?_eq_none (by simpa using h)] at hu; cases hu
          rw [List.getElem?_range hi] at hu
          simp at hu
          subst hu
          exact hU i hi)
        simpa [tv] using this
end
end Go.Proofs.Ytnedjmjcbmoknaa.K
