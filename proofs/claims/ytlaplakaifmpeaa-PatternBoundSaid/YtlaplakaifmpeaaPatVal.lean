/- The chapter's examples: plain values. -/
import Derived.Test.YtlaplakaifmpeaaPatKit
import Derived.Test.YtlaplakaifmpeaaInv
namespace Go.Proofs.Ytlaplakaifmpeaa.Pt
open Go.RowKit K Go.Shelf
set_option linter.unusedVariables false
set_option linter.unusedSimpArgs false

def V0 : Tm := tsym ⟨#[36, 48]⟩
def V1 : Tm := tsym ⟨#[36, 49]⟩
def V2 : Tm := tsym ⟨#[36, 50]⟩
def SA : Tm := tsym ⟨#[97]⟩
def SB : Tm := tsym ⟨#[98]⟩
def SX : Tm := tsym ⟨#[120]⟩
def SY : Tm := tsym ⟨#[121]⟩
def SU : Tm := tsym uscore
def P1 : Tm := ttup [V1, V2, V1]
def T1 : Tm := ttup [SA, tnum 3, SA]
def P2 : Tm := ttup [V1, V1]
def T2 : Tm := ttup [SA, SB]
theorem may_sound {t : Tm} {L : List Tm} (e : subs t = L) (h : sndL L = true) (h2 : wrdL L ≤ 65536) : mayT t = true := by
  unfold mayT chk
  rw [e, if_pos h, if_neg (by omega)]
  rfl
theorem subs_leaf (k n : Int) (s : ByteArray) : subs (.mk k n s []) = [.mk k n s []] := by rw [subs_eq]; simp [subsL_nil]
theorem may_sym (s : ByteArray) (h : s.size ≤ 64) : mayT (tsym s) = true := may_sound (subs_leaf 2 0 s) (by simp [sndL, soundB, soundK, h]) (by simp [wrdL, ownN])
theorem may_V0 : mayT V0 = true := may_sym _ (by decide)
theorem may_V1 : mayT V1 = true := may_sym _ (by decide)
theorem may_V2 : mayT V2 = true := may_sym _ (by decide)
theorem may_SA : mayT SA = true := may_sym _ (by decide)
theorem may_SU : mayT SU = true := may_sym _ (by decide)
theorem may_P1 : mayT P1 = true := may_sound (L := [P1, V1, V2, V1]) (by simp [P1, V1, V2, tsym, ttup, subs_eq, subsL_cons, subsL_nil]) (by decide) (by decide)
theorem may_T1 : mayT T1 = true := may_sound (L := [T1, SA, tnum 3, SA]) (by simp [T1, SA, tnum, tsym, ttup, subs_eq, subsL_cons, subsL_nil]) (by decide) (by decide)
theorem may_P2 : mayT P2 = true := may_sound (L := [P2, V1, V1]) (by simp [P2, V1, tsym, ttup, subs_eq, subsL_cons, subsL_nil]) (by decide) (by decide)
theorem may_T2 : mayT T2 = true := may_sound (L := [T2, SA, SB]) (by simp [T2, SA, SB, tsym, ttup, subs_eq, subsL_cons, subsL_nil]) (by decide) (by decide)
theorem num_V0 : numS ⟨#[36, 48]⟩ = some 0 := by decide
theorem num_V1 : numS ⟨#[36, 49]⟩ = some 1 := by decide
theorem num_V2 : numS ⟨#[36, 50]⟩ = some 2 := by decide
theorem match_new {s : ByteArray} {q : Nat} (hs : s ≠ uscore) (hn : numS s = some q) {t : Tm} {b : Bf} (hb : b q = none) : matchF (tsym s) t b = some (upd b q t) := by
  unfold tsym; rw [matchF]; simp [hs, hn, hb]
theorem match_old {s : ByteArray} {q : Nat} (hs : s ≠ uscore) (hn : numS s = some q) {t u : Tm} {b : Bf} (hb : b q = some u) : matchF (tsym s) t b = if eqT u t = true then some b else none := by
  unfold tsym; rw [matchF]; simp [hs, hn, hb]
theorem match_tup {l l' : List Tm} {b : Bf} (h : l'.length = l.length) : matchF (ttup l) (ttup l') b = matchL l l' b := by
  unfold ttup; rw [matchF]; simp [h]
theorem ne_us (a b : UInt8) : (⟨#[a, b]⟩ : ByteArray) ≠ uscore := by
  intro h
  have : (⟨#[a, b]⟩ : ByteArray).size = uscore.size := by rw [h]
  cases this
theorem match_P1 : matchF P1 T1 (fun _ => none) = some (upd (upd (fun _ => none) 1 SA) 2 (tnum 3)) := by
  unfold P1 T1
  rw [match_tup (by rfl), matchL_cons, show V1 = tsym ⟨#[36, 49]⟩ from rfl, match_new (ne_us _ _) num_V1 rfl]
  show (matchL [V2, V1] [tnum 3, SA] (upd (fun _ => none) 1 SA)) = _
  rw [matchL_cons, show V2 = tsym ⟨#[36, 50]⟩ from rfl, match_new (ne_us _ _) num_V2 rfl]
  show (matchL [V1] [SA] _) = _
  rw [matchL_cons, show V1 = tsym ⟨#[36, 49]⟩ from rfl, match_old (u := SA) (ne_us _ _) num_V1 rfl, eqT_iff.2 rfl]
  simp only [if_true, Option.bind_some, matchL_nil]
theorem sa_sb : SA ≠ SB := by
  intro h
  unfold SA SB tsym at h
  injection h with h1 h2 h3 h4
  exact absurd h3 (by decide)
theorem match_P2 : matchF P2 T2 (fun _ => none) = none := by
  unfold P2 T2
  rw [match_tup (by rfl), matchL_cons, show V1 = tsym ⟨#[36, 49]⟩ from rfl, match_new (ne_us _ _) num_V1 rfl]
  show (matchL [V1] [SB] (upd (fun _ => none) 1 SA)) = _
  rw [matchL_cons, show V1 = tsym ⟨#[36, 49]⟩ from rfl, match_old (u := SA) (ne_us _ _) num_V1 rfl, eqT_no.2 sa_sb]
  rfl
theorem more_P1 : moreP P1 T1 [] = some [(1, SA), (2, tnum 3)] := by
  unfold moreP
  rw [if_pos ⟨rfl, may_P1, may_T1⟩, show bfold [] = fun _ => none from rfl, match_P1]
  rfl
theorem more_P2 : moreP P2 T2 [] = none := by
  unfold moreP
  rw [if_pos ⟨rfl, may_P2, may_T2⟩, show bfold [] = fun _ => none from rfl, match_P2]
  rfl
theorem var_V1 : varT V1 = some 1 := by
  unfold varT
  rw [if_pos ⟨rfl, by have := may_V1; unfold mayT at this; simpa using this⟩]
  exact num_V1
theorem any_SU : anyT SU = true := by
  unfold anyT
  rw [may_SU]
  simp [SU, tsym]
theorem nodes_P1 : nodes P1 ≤ 1048576 := by simp [P1, V1, V2, tsym, ttup, nodes_eq, nodesL_cons, nodesL_nil]
theorem nodes_T1 : nodes T1 ≤ 1048576 := by simp [T1, SA, tnum, tsym, ttup, nodes_eq, nodesL_cons, nodesL_nil]
theorem nodes_P2 : nodes P2 ≤ 1048576 := by simp [P2, V1, tsym, ttup, nodes_eq, nodesL_cons, nodesL_nil]
theorem nodes_T2 : nodes T2 ≤ 1048576 := by simp [T2, SA, SB, tsym, ttup, nodes_eq, nodesL_cons, nodesL_nil]
theorem nodes_leaf1 (k n : Int) (s : ByteArray) : nodes (.mk k n s []) ≤ 1048576 := by rw [nodes_mk, nodesL_nil]; omega
theorem MorePost.yes {w w' : World} {l : List Bnd} {e : Ending} (h : MorePost w (some l) e w') : Below w.heap.size w w' ∧ ∃ A c, e = .returned (.tuple #[.slice A l.length c, .bool true]) ∧ BRow w' w.heap.size (.slice A l.length c) l := by
  obtain ⟨hb, (⟨ho, _⟩ | ⟨L, A, c, ho, he, hr⟩)⟩ := h
  · cases ho
  · injection ho with ho
    subst ho
    exact ⟨hb, A, c, he, hr⟩
theorem MorePost.no {w w' : World} {e : Ending} (h : MorePost w none e w') : Below w.heap.size w w' ∧ e = .returned (.tuple #[.slice none 0 0, .bool false]) := by
  obtain ⟨hb, (⟨_, he⟩ | ⟨L, A, c, ho, _⟩)⟩ := h
  · exact ⟨hb, he⟩
  · cases ho
theorem tP1_val (g : Nat) (w : World) (hg : g = w.heap.size) : Calls Try.prog 34 #[.slice (some ⟨g, 0, none⟩) 3 3] (w.alloc (.cells #[.int .i64 2, .int .i64 0, .string ⟨#[36, 49]⟩, .slice none 0 0, .int .i64 2, .int .i64 0, .string ⟨#[36, 50]⟩, .slice none 0 0, .int .i64 2, .int .i64 0, .string ⟨#[36, 49]⟩, .slice none 0 0] 24)) fun e w' => e = .returned (.agg #[.int .i64 7, .int .i64 0, .string ⟨#[]⟩, .slice (some ⟨g, 0, none⟩) 3 3]) ∧ TA w' P1 (.agg #[.int .i64 7, .int .i64 0, .string ⟨#[]⟩, .slice (some ⟨g, 0, none⟩) 3 3]) ∧ Below (w.alloc (.cells #[.int .i64 2, .int .i64 0, .string ⟨#[36, 49]⟩, .slice none 0 0, .int .i64 2, .int .i64 0, .string ⟨#[36, 50]⟩, .slice none 0 0, .int .i64 2, .int .i64 0, .string ⟨#[36, 49]⟩, .slice none 0 0] 24)).heap.size (w.alloc (.cells #[.int .i64 2, .int .i64 0, .string ⟨#[36, 49]⟩, .slice none 0 0, .int .i64 2, .int .i64 0, .string ⟨#[36, 50]⟩, .slice none 0 0, .int .i64 2, .int .i64 0, .string ⟨#[36, 49]⟩, .slice none 0 0] 24)) w' := by
  subst hg
  refine (t_val _ _ _ _).mono ?_
  rintro e w' ⟨rfl, hb⟩
  have h := (lit3 (F := fun _ => False) (sym_leaf w ⟨#[36, 49]⟩ (by decide)) (sym_leaf w ⟨#[36, 50]⟩ (by decide)) (sym_leaf w ⟨#[36, 49]⟩ (by decide)) (fun b h => h.elim)).mono (G := (· < (w.alloc (.cells #[.int .i64 2, .int .i64 0, .string ⟨#[36, 49]⟩, .slice none 0 0, .int .i64 2, .int .i64 0, .string ⟨#[36, 50]⟩, .slice none 0 0, .int .i64 2, .int .i64 0, .string ⟨#[36, 49]⟩, .slice none 0 0] 24)).heap.size)) (fun b hb => by rcases hb with hb | hb; exact hb.elim; rw [World.size_alloc]; omega)
  exact ⟨rfl, (ta_tup (c := 3) (show TsA _ _ _ from h) (Nat.le_refl _) (by simp [maxLen]) (fun h => by cases h)).later hb, hb⟩
theorem tT1_val (g : Nat) (w : World) (hg : g = w.heap.size) : Calls Try.prog 34 #[.slice (some ⟨g, 0, none⟩) 3 3] (w.alloc (.cells #[.int .i64 2, .int .i64 0, .string ⟨#[97]⟩, .slice none 0 0, .int .i64 1, .int .i64 3, .string ⟨#[]⟩, .slice none 0 0, .int .i64 2, .int .i64 0, .string ⟨#[97]⟩, .slice none 0 0] 24)) fun e w' => e = .returned (.agg #[.int .i64 7, .int .i64 0, .string ⟨#[]⟩, .slice (some ⟨g, 0, none⟩) 3 3]) ∧ TA w' T1 (.agg #[.int .i64 7, .int .i64 0, .string ⟨#[]⟩, .slice (some ⟨g, 0, none⟩) 3 3]) ∧ Below (w.alloc (.cells #[.int .i64 2, .int .i64 0, .string ⟨#[97]⟩, .slice none 0 0, .int .i64 1, .int .i64 3, .string ⟨#[]⟩, .slice none 0 0, .int .i64 2, .int .i64 0, .string ⟨#[97]⟩, .slice none 0 0] 24)).heap.size (w.alloc (.cells #[.int .i64 2, .int .i64 0, .string ⟨#[97]⟩, .slice none 0 0, .int .i64 1, .int .i64 3, .string ⟨#[]⟩, .slice none 0 0, .int .i64 2, .int .i64 0, .string ⟨#[97]⟩, .slice none 0 0] 24)) w' := by
  subst hg
  refine (t_val _ _ _ _).mono ?_
  rintro e w' ⟨rfl, hb⟩
  have h := (lit3 (F := fun _ => False) (sym_leaf w ⟨#[97]⟩ (by decide)) (num_leaf w 3 (by decide)) (sym_leaf w ⟨#[97]⟩ (by decide)) (fun b h => h.elim)).mono (G := (· < (w.alloc (.cells #[.int .i64 2, .int .i64 0, .string ⟨#[97]⟩, .slice none 0 0, .int .i64 1, .int .i64 3, .string ⟨#[]⟩, .slice none 0 0, .int .i64 2, .int .i64 0, .string ⟨#[97]⟩, .slice none 0 0] 24)).heap.size)) (fun b hb => by rcases hb with hb | hb; exact hb.elim; rw [World.size_alloc]; omega)
  exact ⟨rfl, (ta_tup (c := 3) (show TsA _ _ _ from h) (Nat.le_refl _) (by simp [maxLen]) (fun h => by cases h)).later hb, hb⟩
theorem tP2_val (g : Nat) (w : World) (hg : g = w.heap.size) : Calls Try.prog 34 #[.slice (some ⟨g, 0, none⟩) 2 2] (w.alloc (.cells #[.int .i64 2, .int .i64 0, .string ⟨#[36, 49]⟩, .slice none 0 0, .int .i64 2, .int .i64 0, .string ⟨#[36, 49]⟩, .slice none 0 0] 24)) fun e w' => e = .returned (.agg #[.int .i64 7, .int .i64 0, .string ⟨#[]⟩, .slice (some ⟨g, 0, none⟩) 2 2]) ∧ TA w' P2 (.agg #[.int .i64 7, .int .i64 0, .string ⟨#[]⟩, .slice (some ⟨g, 0, none⟩) 2 2]) ∧ Below (w.alloc (.cells #[.int .i64 2, .int .i64 0, .string ⟨#[36, 49]⟩, .slice none 0 0, .int .i64 2, .int .i64 0, .string ⟨#[36, 49]⟩, .slice none 0 0] 24)).heap.size (w.alloc (.cells #[.int .i64 2, .int .i64 0, .string ⟨#[36, 49]⟩, .slice none 0 0, .int .i64 2, .int .i64 0, .string ⟨#[36, 49]⟩, .slice none 0 0] 24)) w' := by
  subst hg
  refine (t_val _ _ _ _).mono ?_
  rintro e w' ⟨rfl, hb⟩
  have h := (lit2 (F := fun _ => False) (sym_leaf w ⟨#[36, 49]⟩ (by decide)) (sym_leaf w ⟨#[36, 49]⟩ (by decide)) (fun b h => h.elim)).mono (G := (· < (w.alloc (.cells #[.int .i64 2, .int .i64 0, .string ⟨#[36, 49]⟩, .slice none 0 0, .int .i64 2, .int .i64 0, .string ⟨#[36, 49]⟩, .slice none 0 0] 24)).heap.size)) (fun b hb => by rcases hb with hb | hb; exact hb.elim; rw [World.size_alloc]; omega)
  exact ⟨rfl, (ta_tup (c := 2) (show TsA _ _ _ from h) (Nat.le_refl _) (by simp [maxLen]) (fun h => by cases h)).later hb, hb⟩
theorem tT2_val (g : Nat) (w : World) (hg : g = w.heap.size) : Calls Try.prog 34 #[.slice (some ⟨g, 0, none⟩) 2 2] (w.alloc (.cells #[.int .i64 2, .int .i64 0, .string ⟨#[97]⟩, .slice none 0 0, .int .i64 2, .int .i64 0, .string ⟨#[98]⟩, .slice none 0 0] 24)) fun e w' => e = .returned (.agg #[.int .i64 7, .int .i64 0, .string ⟨#[]⟩, .slice (some ⟨g, 0, none⟩) 2 2]) ∧ TA w' T2 (.agg #[.int .i64 7, .int .i64 0, .string ⟨#[]⟩, .slice (some ⟨g, 0, none⟩) 2 2]) ∧ Below (w.alloc (.cells #[.int .i64 2, .int .i64 0, .string ⟨#[97]⟩, .slice none 0 0, .int .i64 2, .int .i64 0, .string ⟨#[98]⟩, .slice none 0 0] 24)).heap.size (w.alloc (.cells #[.int .i64 2, .int .i64 0, .string ⟨#[97]⟩, .slice none 0 0, .int .i64 2, .int .i64 0, .string ⟨#[98]⟩, .slice none 0 0] 24)) w' := by
  subst hg
  refine (t_val _ _ _ _).mono ?_
  rintro e w' ⟨rfl, hb⟩
  have h := (lit2 (F := fun _ => False) (sym_leaf w ⟨#[97]⟩ (by decide)) (sym_leaf w ⟨#[98]⟩ (by decide)) (fun b h => h.elim)).mono (G := (· < (w.alloc (.cells #[.int .i64 2, .int .i64 0, .string ⟨#[97]⟩, .slice none 0 0, .int .i64 2, .int .i64 0, .string ⟨#[98]⟩, .slice none 0 0] 24)).heap.size)) (fun b hb => by rcases hb with hb | hb; exact hb.elim; rw [World.size_alloc]; omega)
  exact ⟨rfl, (ta_tup (c := 2) (show TsA _ _ _ from h) (Nat.le_refl _) (by simp [maxLen]) (fun h => by cases h)).later hb, hb⟩
/-- A step to a world that lies behind w (named, so that it is found). -/
def Nx (w w' : World) : Prop := Below w.heap.size w w'
theorem Nx.blk {w w' : World} {g : Nat} {t : TypeId} {cs : Array Value} (h : Nx w w') (hb : Blk w g t cs) : Blk w' g t cs := hb.below h hb.lt
theorem blk_new' (w : World) (g : Nat) (t : TypeId) (cs : Array Value) (hg : g = w.heap.size) : Blk (w.alloc (.cells cs t)) g t cs := by subst hg; exact Blk.new w t cs
theorem blk_drewN {w : World} {g : Nat} {t : TypeId} {cs : Array Value} {n : Nat} (h : Blk w g t cs) : Blk (w.drewN n) g t cs := h
theorem blk_drew {w : World} {g : Nat} {t : TypeId} {cs : Array Value} (h : Blk w g t cs) : Blk w.drew g t cs := h
theorem ta_row2 {w : World} {g : Nat} {t : TypeId} {a b : Tm} {k n k' n' : Int} {s s' : ByteArray} (h : Blk w g t #[.int .i64 k, .int .i64 n, .string s, .slice none 0 0, .int .i64 k', .int .i64 n', .string s', .slice none 0 0]) (ha : ∀ w, TAt w (fun _ => False) a (.agg #[.int .i64 k, .int .i64 n, .string s, .slice none 0 0])) (hb : ∀ w, TAt w (fun _ => False) b (.agg #[.int .i64 k', .int .i64 n', .string s', .slice none 0 0])) :
    TA w (ttup [a, b]) (.agg #[.int .i64 7, .int .i64 0, .string ⟨#[]⟩, .slice (some ⟨g, 0, none⟩) 2 2]) := by
  refine ta_tup (c := 2) (l := [a, b]) ?_ (Nat.le_refl _) (by simp [maxLen]) (fun h => by cases h)
  intro i u hu
  have hc := h.cell
  match i, hu with
  | 0, hu => simp at hu; subst hu; exact ⟨_, ⟨g, 0, _, _, _, _, rfl, h.lt, rfl, by simpa using hc 0, by simpa using hc 1, by simpa using hc 2, by simpa using hc 3⟩, (ha w).mono fun _ h => h.elim⟩
  | 1, hu => simp at hu; subst hu; exact ⟨_, ⟨g, 0, _, _, _, _, rfl, h.lt, rfl, by simpa using hc 4, by simpa using hc 5, by simpa using hc 6, by simpa using hc 7⟩, (hb w).mono fun _ h => h.elim⟩
  | i + 2, hu => simp at hu
theorem ta_P2 {w : World} {g : Nat} {t : TypeId} (h : Blk w g t #[.int .i64 2, .int .i64 0, .string ⟨#[36, 49]⟩, .slice none 0 0, .int .i64 2, .int .i64 0, .string ⟨#[36, 49]⟩, .slice none 0 0]) : TA w P2 (.agg #[.int .i64 7, .int .i64 0, .string ⟨#[]⟩, .slice (some ⟨g, 0, none⟩) 2 2]) := ta_row2 h (fun w => sym_leaf w ⟨#[36, 49]⟩ (by decide)) (fun w => sym_leaf w ⟨#[36, 49]⟩ (by decide))
theorem ta_T2 {w : World} {g : Nat} {t : TypeId} (h : Blk w g t #[.int .i64 2, .int .i64 0, .string ⟨#[97]⟩, .slice none 0 0, .int .i64 2, .int .i64 0, .string ⟨#[98]⟩, .slice none 0 0]) : TA w T2 (.agg #[.int .i64 7, .int .i64 0, .string ⟨#[]⟩, .slice (some ⟨g, 0, none⟩) 2 2]) := ta_row2 h (fun w => sym_leaf w ⟨#[97]⟩ (by decide)) (fun w => sym_leaf w ⟨#[98]⟩ (by decide))
theorem up_of {L : Nat → Bool} {i j : Nat} (hne : j ≠ i) (h : upto L i j = true) : L j = true := by unfold upto at h; rwa [if_neg hne] at h
/-- x is a new slice of n elements of these cells. -/
def SlF (n : Nat) (t : TypeId) (cs : Array Value) (x : Value) (w : World) : Prop := ∃ g, x = .slice (some ⟨g, 0, none⟩) n n ∧ Blk w g t cs
theorem SlF.later {n : Nat} {t : TypeId} {cs : Array Value} {x : Value} {w w' : World} (h : SlF n t cs x w) (hb : Below w.heap.size w w') : SlF n t cs x w' := by
  obtain ⟨g, rfl, hg⟩ := h
  exact ⟨g, rfl, hg.below hb hg.lt⟩
/-- x is a term that reads as t. -/
def TpF (t : Tm) (x : Value) (w : World) : Prop := ∃ (k m : Int) (s : ByteArray) (A : Option Addr) (n c : Nat), x = .agg #[.int .i64 k, .int .i64 m, .string s, .slice A n c] ∧ TA w t (.agg #[.int .i64 k, .int .i64 m, .string s, .slice A n c])
theorem TpF.later {t : Tm} {x : Value} {w w' : World} (h : TpF t x w) (hb : Below w.heap.size w w') : TpF t x w' := by
  obtain ⟨k, m, s, A, n, c, rfl, ht⟩ := h
  exact ⟨k, m, s, A, n, c, rfl, ht.later hb⟩
theorem bs_row1 {w : World} {g : Nat} {ty : TypeId} {a : Tm} {na k n : Int} {s : ByteArray} (h : Blk w g ty #[.int .i64 na, .int .i64 k, .int .i64 n, .string s, .slice none 0 0]) (ha : TAt w (fun _ => False) a (.agg #[.int .i64 k, .int .i64 n, .string s, .slice none 0 0])) :
    BsAt w (· < w.heap.size) (some ⟨g, 0, none⟩) [(na, a)] := by
  intro i u hu
  have hc := h.cell
  match i, hu with
  | 0, hu => simp at hu; subst hu; exact ⟨_, ⟨g, 0, _, _, _, _, rfl, h.lt, rfl, by simpa using hc 0, by simpa using hc 1, by simpa using hc 2, by simpa using hc 3, by simpa using hc 4⟩, ha.mono fun _ h => h.elim⟩
  | i + 1, hu => simp at hu
theorem bs_row2 {w : World} {g : Nat} {ty : TypeId} {a b : Tm} {na nb k n k' n' : Int} {s s' : ByteArray} (h : Blk w g ty #[.int .i64 na, .int .i64 k, .int .i64 n, .string s, .slice none 0 0, .int .i64 nb, .int .i64 k', .int .i64 n', .string s', .slice none 0 0]) (ha : TAt w (fun _ => False) a (.agg #[.int .i64 k, .int .i64 n, .string s, .slice none 0 0])) (hb : TAt w (fun _ => False) b (.agg #[.int .i64 k', .int .i64 n', .string s', .slice none 0 0])) :
    BsAt w (· < w.heap.size) (some ⟨g, 0, none⟩) [(na, a), (nb, b)] := by
  intro i u hu
  have hc := h.cell
  match i, hu with
  | 0, hu => simp at hu; subst hu; exact ⟨_, ⟨g, 0, _, _, _, _, rfl, h.lt, rfl, by simpa using hc 0, by simpa using hc 1, by simpa using hc 2, by simpa using hc 3, by simpa using hc 4⟩, ha.mono fun _ h => h.elim⟩
  | 1, hu => simp at hu; subst hu; exact ⟨_, ⟨g, 0, _, _, _, _, rfl, h.lt, rfl, by simpa using hc 5, by simpa using hc 6, by simpa using hc 7, by simpa using hc 8, by simpa using hc 9⟩, hb.mono fun _ h => h.elim⟩
  | i + 2, hu => simp at hu
theorem row_bs {w : World} {B : Nat} {A : Option Addr} {n c : Nat} {l : List Bnd} (h : BRow w B (.slice A n c) l) : BsAt w (· < w.heap.size) A l := (h.reads.2).mono fun b hb => hb.2
end Go.Proofs.Ytlaplakaifmpeaa.Pt
