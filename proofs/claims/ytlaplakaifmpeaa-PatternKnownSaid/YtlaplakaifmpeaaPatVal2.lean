/- PatternKnown's examples: plain values. -/
import Derived.Test.YtlaplakaifmpeaaPatAwake
import Derived.Test.YtlaplakaifmpeaaPatPlain
import Derived.Test.YtlaplakaifmpeaaOne
import Derived.Test.YtlaplakaifmpeaaSameInts
namespace Go.Proofs.Ytlaplakaifmpeaa.Pt
open Go.RowKit K Go.Shelf
set_option linter.unusedVariables false
set_option linter.unusedSimpArgs false

def S01 : Tm := tsym ⟨#[36, 48, 49]⟩
def S100 : Tm := tsym ⟨#[36, 49, 48, 48]⟩
def T3 : Tm := ttup [SA, SU]
def T4 : Tm := ttup [SA, tnum 7]
def LP : Tm := tlist [V1, SB] tnil
def LR : Tm := tlist [SA, SB] tnil
def LV2 : Tm := tlist [V0, V2] tnil
def T5 : Tm := ttup [V2, LV2]
def T6 : Tm := ttup [SA, tnil]
theorem may_SX : mayT SX = true := may_sym _ (by decide)
theorem may_SY : mayT SY = true := may_sym _ (by decide)
theorem may_T3 : mayT T3 = true := may_sound (L := [T3, SA, SU]) (by simp [T3, SA, SU, tsym, ttup, subs_eq, subsL_cons, subsL_nil]) (by decide) (by decide)
theorem may_T4 : mayT T4 = true := may_sound (L := [T4, SA, tnum 7]) (by simp [T4, SA, tnum, tsym, ttup, subs_eq, subsL_cons, subsL_nil]) (by decide) (by decide)
theorem may_T6 : mayT T6 = true := may_sound (L := [T6, SA, tnil]) (by simp [T6, SA, tnil, tsym, ttup, subs_eq, subsL_cons, subsL_nil]) (by decide) (by decide)
theorem may_LP : mayT LP = true := may_sound (L := [LP, V1, tcons SB tnil, SB, tnil]) (by simp [LP, tlist, tcons, V1, SB, tnil, tsym, subs_eq, subsL_cons, subsL_nil]) (by decide) (by decide)
theorem may_LR : mayT LR = true := may_sound (L := [LR, SA, tcons SB tnil, SB, tnil]) (by simp [LR, tlist, tcons, SA, SB, tnil, tsym, subs_eq, subsL_cons, subsL_nil]) (by decide) (by decide)
theorem may_T5 : mayT T5 = true := may_sound (L := [T5, V2, LV2, V0, tcons V2 tnil, V2, tnil]) (by simp [T5, LV2, tlist, tcons, V0, V2, tnil, tsym, ttup, subs_eq, subsL_cons, subsL_nil]) (by decide) (by decide)
theorem var_S01 : varT S01 = none := by
  unfold varT
  split
  · decide
  · rfl
theorem var_S100 : varT S100 = none := by
  unfold varT
  split
  · decide
  · rfl
theorem ne_us1 (a : UInt8) (h : a ≠ 95) : (⟨#[a]⟩ : ByteArray) ≠ uscore := by
  intro e
  unfold uscore at e
  injection e with e
  injection e with e
  injection e with e
  exact h e
theorem match_self {s : ByteArray} (hs : s ≠ uscore) (hn : numS s = none) (b : Bf) : matchF (tsym s) (tsym s) b = some b := by
  unfold tsym; rw [matchF]; simp [hs, hn, eqT_iff.2 rfl]
theorem match_us (t : Tm) (b : Bf) : matchF SU t b = some b := by
  unfold SU tsym; rw [matchF]; simp
theorem more_T3 : moreP T3 T4 [] = some [] := by
  unfold moreP
  rw [if_pos ⟨rfl, may_T3, may_T4⟩]
  unfold T3 T4
  rw [match_tup (by rfl), matchL_cons, show SA = tsym ⟨#[97]⟩ from rfl, match_self (ne_us1 97 (by decide)) (by decide)]
  show (matchL [SU] [tnum 7] (bfold [])).map _ = _
  rw [matchL_cons, match_us]
  show (matchL [] [] (bfold [])).map _ = _
  rw [matchL_nil]
  rfl
theorem sy_sx : SY ≠ SX := by
  intro h
  unfold SX SY tsym at h
  injection h with h1 h2 h3 h4
  exact absurd h3 (by decide)
theorem ok_SY : okFrom (-1) [(2, SY)] = true := by simp [okFrom, may_SY]
theorem more_no : moreP V2 SX [(2, SY)] = none := by
  unfold moreP
  rw [if_pos ⟨ok_SY, may_V2, may_SX⟩, show V2 = tsym ⟨#[36, 50]⟩ from rfl, match_old (u := SY) (ne_us _ _) num_V2 rfl, eqT_no.2 sy_sx]
  rfl
theorem more_yes : moreP V2 SY [(2, SY)] = some [(2, SY)] := by
  unfold moreP
  rw [if_pos ⟨ok_SY, may_V2, may_SY⟩, show V2 = tsym ⟨#[36, 50]⟩ from rfl, match_old (u := SY) (ne_us _ _) num_V2 rfl, eqT_iff.2 rfl]
  rfl
theorem fill_var {s : ByteArray} {q : Nat} (hs : s ≠ uscore) (hn : numS s = some q) (b : Bf) : fillP (tsym s) b = b q := by
  unfold tsym; rw [fillP]; simp [hs, hn]
theorem fill_cons (x y : Tm) (b : Bf) : fillP (tcons x y) b = (fillP x b).bind fun x' => (fillP y b).map fun y' => tcons x' y' := by
  unfold tcons
  rw [fillP, if_neg (by decide), if_pos (by decide), fillL_cons, fillL_cons, fillL_nil]
  cases fillP x b <;> cases fillP y b <;> rfl
theorem fill_SB (b : Bf) : fillP SB b = some SB := by
  unfold SB tsym; rw [fillP]; simp [ne_us1 98 (by decide), show numS ⟨#[98]⟩ = none from by decide]
theorem fill_nil (b : Bf) : fillP tnil b = some tnil := by
  unfold tnil; rw [fillP]; simp
theorem filled_LP : filledF LP [(1, SA)] = some LR := by
  unfold filledF
  rw [if_pos ⟨by simp [okFrom, may_SA], may_LP⟩]
  show ((fillP (tcons V1 (tcons SB tnil)) (bfold [(1, SA)])).bind _) = _
  rw [fill_cons, fill_cons, fill_SB, fill_nil, show V1 = tsym ⟨#[36, 49]⟩ from rfl, fill_var (ne_us _ _) num_V1, show bfold [(1, SA)] 1 = some SA from rfl]
  show (if mayT LR = true then some LR else none) = _
  rw [if_pos may_LR]
theorem filled_us : filledF SU [] = none := by
  unfold filledF
  rw [if_pos ⟨rfl, may_SU⟩]
  unfold SU tsym
  rw [fillP]
  simp
theorem leafs_T5 : rleafs T5 = [tnil, V2, V0, V2] := by simp [T5, LV2, tlist, tcons, V0, V2, tnil, tsym, ttup, rleafs_eq, rleafsL_cons, rleafsL_nil, goes]
theorem vars_T5 : varsT T5 = [0, 2] := by
  unfold varsT
  rw [leafs_T5]
  decide
theorem bound_T6 : boundT T6 = true := by
  unfold boundT
  rw [may_T6, show rleafs T6 = [tnil, SA] from by simp [T6, SA, tnil, tsym, ttup, rleafs_eq, rleafsL_cons, rleafsL_nil, goes]]
  decide
theorem bound_T3 : boundT T3 = false := by
  unfold boundT
  rw [may_T3, show rleafs T3 = [SU, SA] from by simp [T3, SA, SU, tsym, ttup, rleafs_eq, rleafsL_cons, rleafsL_nil, goes]]
  decide
theorem nodes_T3 : nodes T3 ≤ 1048576 := by simp [T3, SA, SU, tsym, ttup, nodes_eq, nodesL_cons, nodesL_nil]
theorem nodes_T4 : nodes T4 ≤ 1048576 := by simp [T4, SA, tnum, tsym, ttup, nodes_eq, nodesL_cons, nodesL_nil]
theorem nodes_T5 : nodes T5 ≤ 1048576 := by simp [T5, LV2, tlist, tcons, V0, V2, tnil, tsym, ttup, nodes_eq, nodesL_cons, nodesL_nil]
theorem nodes_T6 : nodes T6 ≤ 1048576 := by simp [T6, SA, tnil, tsym, ttup, nodes_eq, nodesL_cons, nodesL_nil]
theorem nodes_LP : nodes LP ≤ 1000 := by simp [LP, tlist, tcons, V1, SB, tnil, tsym, nodes_eq, nodesL_cons, nodesL_nil]
theorem nodes_SU : nodes SU ≤ 1000 := by simp [SU, tsym, nodes_eq, nodesL_nil]
theorem ta_T3 {w : World} {g : Nat} {t : TypeId} (h : Blk w g t #[.int .i64 2, .int .i64 0, .string ⟨#[97]⟩, .slice none 0 0, .int .i64 2, .int .i64 0, .string ⟨#[95]⟩, .slice none 0 0]) : TA w T3 (.agg #[.int .i64 7, .int .i64 0, .string ⟨#[]⟩, .slice (some ⟨g, 0, none⟩) 2 2]) := ta_row2 h (fun w => sym_leaf w ⟨#[97]⟩ (by decide)) (fun w => sym_leaf w uscore (by decide))
theorem ta_T4 {w : World} {g : Nat} {t : TypeId} (h : Blk w g t #[.int .i64 2, .int .i64 0, .string ⟨#[97]⟩, .slice none 0 0, .int .i64 1, .int .i64 7, .string ⟨#[]⟩, .slice none 0 0]) : TA w T4 (.agg #[.int .i64 7, .int .i64 0, .string ⟨#[]⟩, .slice (some ⟨g, 0, none⟩) 2 2]) := ta_row2 h (fun w => sym_leaf w ⟨#[97]⟩ (by decide)) (fun w => num_leaf w 7 (by decide))
theorem ta_T6 {w : World} {g : Nat} {t : TypeId} (h : Blk w g t #[.int .i64 2, .int .i64 0, .string ⟨#[97]⟩, .slice none 0 0, .int .i64 8, .int .i64 0, .string ⟨#[]⟩, .slice none 0 0]) : TA w T6 (.agg #[.int .i64 7, .int .i64 0, .string ⟨#[]⟩, .slice (some ⟨g, 0, none⟩) 2 2]) := ta_row2 h (fun w => sym_leaf w ⟨#[97]⟩ (by decide)) (fun w => nil_leaf w)
theorem ts_row2 {w : World} {g : Nat} {t : TypeId} {a b : Tm} {k n k' n' : Int} {s s' : ByteArray} (h : Blk w g t #[.int .i64 k, .int .i64 n, .string s, .slice none 0 0, .int .i64 k', .int .i64 n', .string s', .slice none 0 0]) (ha : ∀ w, TAt w (fun _ => False) a (.agg #[.int .i64 k, .int .i64 n, .string s, .slice none 0 0])) (hb : ∀ w, TAt w (fun _ => False) b (.agg #[.int .i64 k', .int .i64 n', .string s', .slice none 0 0])) :
    TsAt w (· < w.heap.size) (some ⟨g, 0, none⟩) [a, b] := by
  intro i u hu
  have hc := h.cell
  match i, hu with
  | 0, hu => simp at hu; subst hu; exact ⟨_, ⟨g, 0, _, _, _, _, rfl, h.lt, rfl, by simpa using hc 0, by simpa using hc 1, by simpa using hc 2, by simpa using hc 3⟩, (ha w).mono fun _ h => h.elim⟩
  | 1, hu => simp at hu; subst hu; exact ⟨_, ⟨g, 0, _, _, _, _, rfl, h.lt, rfl, by simpa using hc 4, by simpa using hc 5, by simpa using hc 6, by simpa using hc 7⟩, (hb w).mono fun _ h => h.elim⟩
  | i + 2, hu => simp at hu
theorem ts_LP {w : World} {g : Nat} {t : TypeId} (h : Blk w g t #[.int .i64 2, .int .i64 0, .string ⟨#[36, 49]⟩, .slice none 0 0, .int .i64 2, .int .i64 0, .string ⟨#[98]⟩, .slice none 0 0]) : TsAt w (· < w.heap.size) (some ⟨g, 0, none⟩) [V1, SB] := ts_row2 h (fun w => sym_leaf w ⟨#[36, 49]⟩ (by decide)) (fun w => sym_leaf w ⟨#[98]⟩ (by decide))
theorem ts_LV {w : World} {g : Nat} {t : TypeId} (h : Blk w g t #[.int .i64 2, .int .i64 0, .string ⟨#[36, 48]⟩, .slice none 0 0, .int .i64 2, .int .i64 0, .string ⟨#[36, 50]⟩, .slice none 0 0]) : TsAt w (· < w.heap.size) (some ⟨g, 0, none⟩) [V0, V2] := ts_row2 h (fun w => sym_leaf w ⟨#[36, 48]⟩ (by decide)) (fun w => sym_leaf w ⟨#[36, 50]⟩ (by decide))
theorem ts_LR {w : World} {g : Nat} {t : TypeId} (h : Blk w g t #[.int .i64 2, .int .i64 0, .string ⟨#[97]⟩, .slice none 0 0, .int .i64 2, .int .i64 0, .string ⟨#[98]⟩, .slice none 0 0]) : TsAt w (· < w.heap.size) (some ⟨g, 0, none⟩) [SA, SB] := ts_row2 h (fun w => sym_leaf w ⟨#[97]⟩ (by decide)) (fun w => sym_leaf w ⟨#[98]⟩ (by decide))
/-- L of tenurekit at a row of terms. -/
theorem l_any (l : List Tm) (A : Option Addr) (c : Nat) (w : World) (h : TsAt w (· < w.heap.size) A l) (hl : l.length ≤ maxLen) :
    Calls Try.prog 37 #[.slice A l.length c] w fun e w' => ∃ (k m : Int) (s : ByteArray) (B : Option Addr) (n d : Nat), e = .returned (.agg #[.int .i64 k, .int .i64 m, .string s, .slice B n d]) ∧ TA w' (tlist l tnil) (.agg #[.int .i64 k, .int .i64 m, .string s, .slice B n d]) ∧ Below w.heap.size w w' := by
  refine (list_at _ l A c w (fun b h => h) h hl).mono ?_
  rintro e w' ⟨v, rfl, ht, hb⟩
  obtain ⟨B, d, rfl, _, _⟩ := ht.inv
  exact ⟨_, _, _, _, _, _, rfl, ht.mono fun b hb => hb.1, hb⟩
theorem reads_blk {w : World} {g : Nat} {t : TypeId} {a b : Int} (h : Blk w g t #[.int .i64 a, .int .i64 b]) : Reads w w.heap.size 1 (some ⟨g, 0, none⟩) 2 ([a, b].map (Value.int .i64)) :=
  ⟨rfl, fun _ => ⟨⟨g, 0, none⟩, rfl, h.lt, fun j u hj => by rw [add_plain', h.cell]; simpa using hj⟩⟩
theorem reads_row {w : World} {B c : Nat} {A : Option Addr} {a b : Int} (h : w.ownsRow B 3 1 (.slice A 2 c) 2 [.int .i64 a, .int .i64 b]) : Reads w w.heap.size 1 A 2 ([a, b].map (Value.int .i64)) := by
  obtain ⟨g, cap, he, _, _, _, hg, hc⟩ := ownsRow_at h (k := 0) (by omega)
  injection he with h1 h2 h3
  subst h1
  exact ⟨rfl, fun _ => ⟨⟨g, 0, none⟩, rfl, hg, fun j u hj => by rw [add_plain']; simpa using hc j u (by simpa using hj)⟩⟩
theorem t_two {w : World} {a b : Tm} {k n : Int} {s : ByteArray} {A : Option Addr} {m c : Nat} {k' n' : Int} {s' : ByteArray} {A' : Option Addr} {m' c' : Nat} (ha : TA w a (.agg #[.int .i64 k, .int .i64 n, .string s, .slice A m c])) (hb : TA w b (.agg #[.int .i64 k', .int .i64 n', .string s', .slice A' m' c'])) :
    TA (w.alloc (.cells #[.int .i64 k, .int .i64 n, .string s, .slice A m c, .int .i64 k', .int .i64 n', .string s', .slice A' m' c'] 24)) (ttup [a, b]) (.agg #[.int .i64 7, .int .i64 0, .string ⟨#[]⟩, .slice (some ⟨w.heap.size, 0, none⟩) 2 2]) :=
  ta_tup (c := 2) (show TsA _ _ _ from (lit2 ha hb (fun b h => h)).mono (fun b hb => by rw [World.size_alloc]; omega)) (Nat.le_refl _) (by simp [maxLen]) (fun h => by cases h)
theorem same02 {w : World} {A : Option Addr} {c g : Nat} (h : Reads w w.heap.size 1 A 2 ([0, 2].map (Value.int .i64))) (hg : g = w.heap.size) : Calls Try.prog 28 #[.slice A 2 c, .slice (some ⟨g, 0, none⟩) 2 2] (w.alloc (.cells #[.int .i64 0, .int .i64 2] 3)) fun e w' => e = .returned (.bool true) ∧ Below (w.alloc (.cells #[.int .i64 0, .int .i64 2] 3)).heap.size (w.alloc (.cells #[.int .i64 0, .int .i64 2] 3)) w' := by
  subst hg
  refine (sameInts_yes A (some ⟨w.heap.size, 0, none⟩) c 2 _ _ [0, 2] _ (h.alloc (Nat.le_refl _) _) (reads_blk (Blk.new w 3 #[.int .i64 0, .int .i64 2])) (by simp)).mono ?_
  rintro e w' ⟨rfl, n, rfl⟩
  exact ⟨rfl, rfl, rfl, rfl, Nat.le_refl _, fun _ _ => rfl⟩
theorem t6_call {w : World} {g : Nat} {k m : Int} {s : ByteArray} {B : Option Addr} {n d : Nat} (h : TA w tnil (.agg #[.int .i64 k, .int .i64 m, .string s, .slice B n d])) (hg : g = w.heap.size) :
    Calls Try.prog 34 #[.slice (some ⟨g, 0, none⟩) 2 2] (w.alloc (.cells #[.int .i64 2, .int .i64 0, .string ⟨#[97]⟩, .slice none 0 0, .int .i64 k, .int .i64 m, .string s, .slice B n d] 24)) fun e w' => e = .returned (.agg #[.int .i64 7, .int .i64 0, .string ⟨#[]⟩, .slice (some ⟨g, 0, none⟩) 2 2]) ∧ TA w' T6 (.agg #[.int .i64 7, .int .i64 0, .string ⟨#[]⟩, .slice (some ⟨g, 0, none⟩) 2 2]) ∧ Below (w.alloc (.cells #[.int .i64 2, .int .i64 0, .string ⟨#[97]⟩, .slice none 0 0, .int .i64 k, .int .i64 m, .string s, .slice B n d] 24)).heap.size (w.alloc (.cells #[.int .i64 2, .int .i64 0, .string ⟨#[97]⟩, .slice none 0 0, .int .i64 k, .int .i64 m, .string s, .slice B n d] 24)) w' := by
  subst hg
  refine (t_val _ _ _ _).mono ?_
  rintro e w' ⟨rfl, hb⟩
  exact ⟨rfl, (t_two (a := SA) (b := tnil) (sym_leaf w ⟨#[97]⟩ (by decide)) h).later hb, hb⟩
theorem t3_call {w : World} {g : Nat} (hg : g = w.heap.size) :
    Calls Try.prog 34 #[.slice (some ⟨g, 0, none⟩) 2 2] (w.alloc (.cells #[.int .i64 2, .int .i64 0, .string ⟨#[97]⟩, .slice none 0 0, .int .i64 2, .int .i64 0, .string ⟨#[95]⟩, .slice none 0 0] 24)) fun e w' => e = .returned (.agg #[.int .i64 7, .int .i64 0, .string ⟨#[]⟩, .slice (some ⟨g, 0, none⟩) 2 2]) ∧ TA w' T3 (.agg #[.int .i64 7, .int .i64 0, .string ⟨#[]⟩, .slice (some ⟨g, 0, none⟩) 2 2]) ∧ Below (w.alloc (.cells #[.int .i64 2, .int .i64 0, .string ⟨#[97]⟩, .slice none 0 0, .int .i64 2, .int .i64 0, .string ⟨#[95]⟩, .slice none 0 0] 24)).heap.size (w.alloc (.cells #[.int .i64 2, .int .i64 0, .string ⟨#[97]⟩, .slice none 0 0, .int .i64 2, .int .i64 0, .string ⟨#[95]⟩, .slice none 0 0] 24)) w' := by
  subst hg
  refine (t_val _ _ _ _).mono ?_
  rintro e w' ⟨rfl, hb⟩
  exact ⟨rfl, (t_two (a := SA) (b := SU) (sym_leaf w ⟨#[97]⟩ (by decide)) (sym_leaf w uscore (by decide))).later hb, hb⟩
end Go.Proofs.Ytlaplakaifmpeaa.Pt
