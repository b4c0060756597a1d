/- A, I, T, L of tenurekit, v of the law: terms that are made; SameBinds. By contracts. -/
import Derived.Test.YtlaplakaifmpeaaPatFills
import Derived.Lib.BitFns
namespace Go.Proofs.Ytlaplakaifmpeaa.Pt
open Go.RowKit K Go.Shelf
set_option linter.unusedVariables false
set_option linter.unusedSimpArgs false

/-- A row of two terms just made, of blocks at or behind B. -/
theorem lit2 {w : World} {F : Nat → Prop} {a b : Tm} {k n : Int} {s : ByteArray} {A : Option Addr} {m c : Nat} {k' n' : Int} {s' : ByteArray} {A' : Option Addr} {m' c' : Nat} (ha : TAt w F a (.agg #[.int .i64 k, .int .i64 n, .string s, .slice A m c])) (hb : TAt w F b (.agg #[.int .i64 k', .int .i64 n', .string s', .slice A' m' c'])) (hF : ∀ b, F b → b < w.heap.size) :
    TsAt (w.alloc (.cells #[.int .i64 k, .int .i64 n, .string s, .slice A m c, .int .i64 k', .int .i64 n', .string s', .slice A' m' c'] 24)) (fun b => F b ∨ b = w.heap.size) (some ⟨w.heap.size, 0, none⟩) [a, b] :=
  lit_rowF (vs := [_, _]) (.cons ha (.cons hb .nil)) hF (by simp [maxLen]) _ rfl
theorem leafF (w : World) {F : Nat → Prop} (k n : Int) (s : ByteArray) (hk : (Lit.int .i64 k).wf = true) (hn : (Lit.int .i64 n).wf = true) (hs : s.size ≤ maxLen) : TAt w F (.mk k n s []) (.agg #[.int .i64 k, .int .i64 n, .string s, .slice none 0 0]) :=
  TAt.of (t := .mk k n s []) ⟨hk, hn, hs, Nat.le_refl _, by simp [maxLen], fun _ => rfl⟩ (TsAt.nil _ _ _)
theorem num_leaf (w : World) {F : Nat → Prop} (n : Int) (hn : (Lit.int .i64 n).wf = true) : TAt w F (tnum n) (.agg #[.int .i64 1, .int .i64 n, .string ⟨#[]⟩, .slice none 0 0]) := leafF w 1 n .empty (by decide) hn (by decide)
theorem nil_leaf (w : World) {F : Nat → Prop} : TAt w F tnil (.agg #[.int .i64 8, .int .i64 0, .string ⟨#[]⟩, .slice none 0 0]) := leafF w 8 0 .empty (by decide) (by decide) (by decide)
theorem sym_leaf (w : World) {F : Nat → Prop} (s : ByteArray) (hs : s.size ≤ maxLen) : TAt w F (tsym s) (.agg #[.int .i64 2, .int .i64 0, .string s, .slice none 0 0]) := leafF w 2 0 s (by decide) (by decide) hs

theorem lit3 {w : World} {F : Nat → Prop} {a b d : Tm} {k n : Int} {s : ByteArray} {A : Option Addr} {m c : Nat} {k' n' : Int} {s' : ByteArray} {A' : Option Addr} {m' c' : Nat} {k2 n2 : Int} {s2 : ByteArray} {A2 : Option Addr} {m2 c2 : Nat} (ha : TAt w F a (.agg #[.int .i64 k, .int .i64 n, .string s, .slice A m c])) (hb : TAt w F b (.agg #[.int .i64 k', .int .i64 n', .string s', .slice A' m' c'])) (hd : TAt w F d (.agg #[.int .i64 k2, .int .i64 n2, .string s2, .slice A2 m2 c2])) (hF : ∀ b, F b → b < w.heap.size) :
    TsAt (w.alloc (.cells #[.int .i64 k, .int .i64 n, .string s, .slice A m c, .int .i64 k', .int .i64 n', .string s', .slice A' m' c', .int .i64 k2, .int .i64 n2, .string s2, .slice A2 m2 c2] 24)) (fun b => F b ∨ b = w.heap.size) (some ⟨w.heap.size, 0, none⟩) [a, b, d] :=
  lit_rowF (vs := [_, _, _]) (.cons ha (.cons hb (.cons hd .nil))) hF (by simp [maxLen]) _ rfl
theorem a_val (s : ByteArray) (w : World) : Calls Try.prog 33 #[.string s] w fun e w' => e = .returned (.agg #[.int .i64 2, .int .i64 0, .string s, .slice none 0 0]) ∧ Below w.heap.size w w' := by
  go_enter Try.func33, Try.ntmps33
  go_wp2
  exact bodyPost_ret (v := .agg #[.int .i64 2, .int .i64 0, .string s, .slice none 0 0]) (by simp [results, Try.results33, go_sem]) rfl ⟨rfl, ballocs (Below.refl w.heap.size w) _⟩
theorem i_val (n : Int) (w : World) : Calls Try.prog 35 #[.int .i64 n] w fun e w' => e = .returned (.agg #[.int .i64 1, .int .i64 n, .string ⟨#[]⟩, .slice none 0 0]) ∧ Below w.heap.size w w' := by
  go_enter Try.func35, Try.ntmps35
  go_wp2
  exact bodyPost_ret (v := .agg #[.int .i64 1, .int .i64 n, .string ⟨#[]⟩, .slice none 0 0]) (by simp [results, Try.results35, go_sem]) rfl ⟨rfl, ballocs (Below.refl w.heap.size w) _⟩
theorem t_val (A : Option Addr) (m c : Nat) (w : World) : Calls Try.prog 34 #[.slice A m c] w fun e w' => e = .returned (.agg #[.int .i64 7, .int .i64 0, .string ⟨#[]⟩, .slice A m c]) ∧ Below w.heap.size w w' := by
  go_enter Try.func34, Try.ntmps34
  go_wp2
  exact bodyPost_ret (v := .agg #[.int .i64 7, .int .i64 0, .string ⟨#[]⟩, .slice A m c]) (by simp [results, Try.results34, go_sem]) rfl ⟨rfl, ballocs (Below.refl w.heap.size w) _⟩
theorem conv1 (W : World) (g : Nat) (b : UInt8) (h : Blk W g 5 #[.int .u8 (b.toNat : Int)]) : (convert 75 9 (.slice (some ⟨g, 0, none⟩) 1 1)).run Try.prog W = .ok (.string ⟨#[b]⟩) W :=
  run_convert_bytes_back (P := Try.prog) W 75 9 5 ⟨g, 0, none⟩ 1 [b] Try.underlying75 Try.underlying5 Try.underlying9 (by
    intro j hj
    have hj' : j = 0 := by simpa using hj
    subst hj'
    rw [add_plain', h.cell]
    rfl)
theorem v0_val (w : World) : Calls Try.prog 36 #[.int .i64 0] w fun e w' => e = .returned (.agg #[.int .i64 2, .int .i64 0, .string ⟨#[36, 48]⟩, .slice none 0 0]) ∧ Below w.heap.size w w' := by
  have HA := Lib.hid (fun s w => a_val s w)
  have hcv := conv1 _ _ 48 (Blk.new (w.alloc (.cells #[.int .i64 0, .int .i64 0, .string ⟨#[]⟩, .slice none 0 0] 24)) 5 #[.int .u8 48])
  simp only [World.size_alloc] at hcv
  go_enter Try.func36, Try.ntmps36
  go_wp2_with fail
  rw [show (⟨#[36]⟩ : ByteArray) ++ ⟨#[48]⟩ = ⟨#[36, 48]⟩ from rfl]
  refine (HA.out _ _).mono ?_
  rintro e w2 ⟨rfl, hb2⟩
  have hg := ((Blk.new w 24 #[.int .i64 0, .int .i64 0, .string ⟨#[]⟩, .slice none 0 0]).alloc (.cells #[.int .u8 48] 5)).below hb2 (by simp; omega)
  obtain ⟨p0, p1, p2, p3, q0, q1, q2, q3⟩ := hg.four
  have HG := Lib.hid hg
  have HB := Lib.hid (bnext (ballocs (ballocs (Below.refl w.heap.size w) _) _) hb2)
  clear hb2 hg hcv
  go_wp2_with fail
  obtain ⟨r0, r1, r2, r3, _, _, _, _⟩ := (put4_blk HG.out (.int .i64 2) (.int .i64 0) (.string ⟨#[36, 48]⟩) (.slice none 0 0)).four
  unfold put4 at r0 r1 r2 r3
  exact bodyPost_ret (v := .agg #[.int .i64 2, .int .i64 0, .string ⟨#[36, 48]⟩, .slice none 0 0]) (by simp [results, Try.results36, go_sem, r0, r1, r2, r3]) rfl ⟨rfl, put4_below HB.out (Nat.le_refl _) _ _ _ _⟩
theorem v1_val (w : World) : Calls Try.prog 36 #[.int .i64 1] w fun e w' => e = .returned (.agg #[.int .i64 2, .int .i64 0, .string ⟨#[36, 49]⟩, .slice none 0 0]) ∧ Below w.heap.size w w' := by
  have HA := Lib.hid (fun s w => a_val s w)
  have hcv := conv1 _ _ 49 (Blk.new (w.alloc (.cells #[.int .i64 0, .int .i64 0, .string ⟨#[]⟩, .slice none 0 0] 24)) 5 #[.int .u8 49])
  simp only [World.size_alloc] at hcv
  go_enter Try.func36, Try.ntmps36
  go_wp2_with fail
  rw [show (⟨#[36]⟩ : ByteArray) ++ ⟨#[49]⟩ = ⟨#[36, 49]⟩ from rfl]
  refine (HA.out _ _).mono ?_
  rintro e w2 ⟨rfl, hb2⟩
  have hg := ((Blk.new w 24 #[.int .i64 0, .int .i64 0, .string ⟨#[]⟩, .slice none 0 0]).alloc (.cells #[.int .u8 49] 5)).below hb2 (by simp; omega)
  obtain ⟨p0, p1, p2, p3, q0, q1, q2, q3⟩ := hg.four
  have HG := Lib.hid hg
  have HB := Lib.hid (bnext (ballocs (ballocs (Below.refl w.heap.size w) _) _) hb2)
  clear hb2 hg hcv
  go_wp2_with fail
  obtain ⟨r0, r1, r2, r3, _, _, _, _⟩ := (put4_blk HG.out (.int .i64 2) (.int .i64 0) (.string ⟨#[36, 49]⟩) (.slice none 0 0)).four
  unfold put4 at r0 r1 r2 r3
  exact bodyPost_ret (v := .agg #[.int .i64 2, .int .i64 0, .string ⟨#[36, 49]⟩, .slice none 0 0]) (by simp [results, Try.results36, go_sem, r0, r1, r2, r3]) rfl ⟨rfl, put4_below HB.out (Nat.le_refl _) _ _ _ _⟩
theorem v2_val (w : World) : Calls Try.prog 36 #[.int .i64 2] w fun e w' => e = .returned (.agg #[.int .i64 2, .int .i64 0, .string ⟨#[36, 50]⟩, .slice none 0 0]) ∧ Below w.heap.size w w' := by
  have HA := Lib.hid (fun s w => a_val s w)
  have hcv := conv1 _ _ 50 (Blk.new (w.alloc (.cells #[.int .i64 0, .int .i64 0, .string ⟨#[]⟩, .slice none 0 0] 24)) 5 #[.int .u8 50])
  simp only [World.size_alloc] at hcv
  go_enter Try.func36, Try.ntmps36
  go_wp2_with fail
  rw [show (⟨#[36]⟩ : ByteArray) ++ ⟨#[50]⟩ = ⟨#[36, 50]⟩ from rfl]
  refine (HA.out _ _).mono ?_
  rintro e w2 ⟨rfl, hb2⟩
  have hg := ((Blk.new w 24 #[.int .i64 0, .int .i64 0, .string ⟨#[]⟩, .slice none 0 0]).alloc (.cells #[.int .u8 50] 5)).below hb2 (by simp; omega)
  obtain ⟨p0, p1, p2, p3, q0, q1, q2, q3⟩ := hg.four
  have HG := Lib.hid hg
  have HB := Lib.hid (bnext (ballocs (ballocs (Below.refl w.heap.size w) _) _) hb2)
  clear hb2 hg hcv
  go_wp2_with fail
  obtain ⟨r0, r1, r2, r3, _, _, _, _⟩ := (put4_blk HG.out (.int .i64 2) (.int .i64 0) (.string ⟨#[36, 50]⟩) (.slice none 0 0)).four
  unfold put4 at r0 r1 r2 r3
  exact bodyPost_ret (v := .agg #[.int .i64 2, .int .i64 0, .string ⟨#[36, 50]⟩, .slice none 0 0]) (by simp [results, Try.results36, go_sem, r0, r1, r2, r3]) rfl ⟨rfl, put4_below HB.out (Nat.le_refl _) _ _ _ _⟩
/-! ### Pairs -/
def PaRel (z : Nat) (w : World) (G : Nat → Prop) (l : List Tm) (e : Tm) (i : Value) (wr : World) : Prop :=
  ∃ (j : Nat) (k n : Int) (s : ByteArray) (A : Option Addr) (m c : Nat), j ≤ l.length ∧ i = .int .i64 ((j : Int) - 1) ∧ TAt wr (fun b => b < wr.heap.size ∧ b ≠ z ∧ b ≠ (z + 1) ∧ (G b ∨ w.heap.size ≤ b)) (tlist (l.drop j) e) (.agg #[.int .i64 k, .int .i64 n, .string s, .slice A m c]) ∧
    Blk wr (z) 24 #[.int .i64 0, .int .i64 0, .string .empty, .slice none 0 0] ∧ Blk wr ((z + 1)) 24 #[.int .i64 k, .int .i64 n, .string s, .slice A m c] ∧ Below w.heap.size w wr
theorem pa_start {w : World} {G : Nat → Prop} (hG : ∀ b, G b → b < w.heap.size) {l : List Tm} {e : Tm} {k n : Int} {s : ByteArray} {A : Option Addr} {q c : Nat} (he : TAt w G e (.agg #[.int .i64 k, .int .i64 n, .string s, .slice A q c])) :
    PaRel w.heap.size w G l e (.int .i64 ((l.length : Int) - 1)) ((w.alloc (.cells #[.int .i64 0, .int .i64 0, .string ⟨#[]⟩, .slice none 0 0] 24)).alloc (.cells #[.int .i64 k, .int .i64 n, .string s, .slice A q c] 24)) := by
  have h1 := Blk.new w 24 #[.int .i64 0, .int .i64 0, .string ⟨#[]⟩, .slice none 0 0]
  have h2 := Blk.new (w.alloc (.cells #[.int .i64 0, .int .i64 0, .string ⟨#[]⟩, .slice none 0 0] 24)) 24 #[.int .i64 k, .int .i64 n, .string s, .slice A q c]
  simp only [World.size_alloc] at h1 h2
  refine ⟨l.length, k, n, s, A, q, c, Nat.le_refl _, rfl, ?_, h1.alloc _, h2, ballocs (ballocs (Below.refl _ _) _) _⟩
  rw [List.drop_length]
  refine (TAt.under he (ballocs (ballocs (Below.refl _ _) _) _) hG).mono fun b hb => ?_
  have := hG b hb
  simp
  exact ⟨by omega, by omega, by omega, .inl hb⟩
theorem pa_drew {z : Nat} {w wr : World} {G : Nat → Prop} {l : List Tm} {e : Tm} {i : Value} (h : PaRel z w G l e i wr) : PaRel z w G l e i wr.drew := by
  obtain ⟨j, k, n, s, A, m, c, hj, hi, hta, hB1, hB2, hb⟩ := h
  exact ⟨j, k, n, s, A, m, c, hj, hi, hta.keep (w' := wr.drew) (fun _ _ => rfl), hB1.drew, hB2.drew, btodrew hb⟩
theorem pa_step {z : Nat} {w wr : World} (hz : w.heap.size ≤ z) {G : Nat → Prop} (hG : ∀ b, G b → b < w.heap.size) {l : List Tm} {e u : Tm} {m c1 : Nat} {A1 : Option Addr} {k n : Int} {s : ByteArray} {A : Option Addr} {q c : Nat} (hm : m < l.length) (hU : tlist (l.drop m) e = tcons u (tlist (l.drop (m + 1)) e)) (hu : TAt w G u (.agg #[.int .i64 u.k, .int .i64 u.n, .string u.s, .slice A1 u.l.length c1]))
    (hT : TAt wr (fun b => b < wr.heap.size ∧ b ≠ z ∧ b ≠ (z + 1) ∧ (G b ∨ w.heap.size ≤ b)) (tlist (l.drop (m + 1)) e) (.agg #[.int .i64 k, .int .i64 n, .string s, .slice A q c]))
    (hB1 : Blk wr (z) 24 #[.int .i64 0, .int .i64 0, .string .empty, .slice none 0 0]) (hB2 : Blk wr ((z + 1)) 24 #[.int .i64 k, .int .i64 n, .string s, .slice A q c]) (hB : Below w.heap.size w wr) :
    PaRel z w G l e (.int .i64 ((m : Int) - 1)) (put4 (wr.alloc (.cells #[.int .i64 u.k, .int .i64 u.n, .string u.s, .slice A1 u.l.length c1, .int .i64 k, .int .i64 n, .string s, .slice A q c] 24)) ((z + 1)) (.int .i64 9) (.int .i64 0) (.string ⟨#[]⟩) (.slice (some ⟨wr.heap.size, 0, none⟩) 2 2)).drew := by
  apply pa_drew
  have hlt := hB2.lt
  have hu' : TAt wr (fun b => b < wr.heap.size ∧ b ≠ z ∧ b ≠ (z + 1) ∧ (G b ∨ w.heap.size ≤ b)) u (.agg #[.int .i64 u.k, .int .i64 u.n, .string u.s, .slice A1 u.l.length c1]) := (TAt.under hu hB hG).mono fun b hb => by have := hG b hb; exact ⟨by omega, by omega, by omega, .inl hb⟩
  refine ⟨m, _, _, _, _, _, _, by omega, rfl, ?_, put4_far (hB1.alloc _) (by omega) _ _ _ _, put4_blk (hB2.alloc _) _ _ _ _, put4_below (ballocs hB _) (by omega) _ _ _ _⟩
  rw [hU]
  have h3 := ta_consF hu' hT (fun b hb => hb.1) #[.int .i64 u.k, .int .i64 u.n, .string u.s, .slice A1 u.l.length c1, .int .i64 k, .int .i64 n, .string s, .slice A q c] rfl
  refine (h3.keep fun p hp => ?_).mono fun b hb => ?_
  · exact put4_cell _ _ _ _ _ _ p (by
      rcases hp with hp | hp
      · exact hp.2.2.1
      · omega)
  · have hz : (put4 (wr.alloc (.cells #[.int .i64 u.k, .int .i64 u.n, .string u.s, .slice A1 u.l.length c1, .int .i64 k, .int .i64 n, .string s, .slice A q c] 24)) ((z + 1)) (.int .i64 9) (.int .i64 0) (.string ⟨#[]⟩) (.slice (some ⟨wr.heap.size, 0, none⟩) 2 2)).heap.size = wr.heap.size + 1 := (put4_size _ _ _ _ _ _).trans (by simp)
    rw [hz]
    rcases hb with hb | hb
    · exact ⟨by omega, hb.2⟩
    · exact ⟨by omega, by omega, by omega, .inr (by omega)⟩
/-- A term told, in memory that is there then: of the blocks G, or new. -/
def ToldF (w : World) (G : Nat → Prop) (t : Tm) (e : Ending) (w' : World) : Prop := ∃ v, e = .returned v ∧ TAt w' (fun b => b < w'.heap.size ∧ (G b ∨ w.heap.size ≤ b)) t v ∧ Below w.heap.size w w'
theorem pa_end {z : Nat} {w wr : World} (hz : w.heap.size ≤ z) {G : Nat → Prop} {t : Tm} {x0 x1 x2 x3 : Value} (hT : TAt wr (fun b => b < wr.heap.size ∧ b ≠ z ∧ b ≠ (z + 1) ∧ (G b ∨ w.heap.size ≤ b)) t (.agg #[x0, x1, x2, x3])) (hB : Below w.heap.size w wr) :
    TAt (put4 wr (z) x0 x1 x2 x3) (fun b => b < (put4 wr (z) x0 x1 x2 x3).heap.size ∧ (G b ∨ w.heap.size ≤ b)) t (.agg #[x0, x1, x2, x3]) ∧ Below w.heap.size w (put4 wr (z) x0 x1 x2 x3) :=
  ⟨(hT.keep fun p hp => put4_cell _ _ _ _ _ _ p hp.2.1).mono fun b hb => ⟨by rw [put4_size]; exact hb.1, hb.2.2.2⟩, put4_below hB (by omega) _ _ _ _⟩
set_option maxRecDepth 100000 in
set_option maxHeartbeats 4000000 in
theorem list_at (G : Nat → Prop) (l : List Tm) (A : Option Addr) (c : Nat) (w : World) (hG : ∀ b, G b → b < w.heap.size) (h : TsAt w G A l) (hl : l.length ≤ maxLen) :
    Calls Try.prog 37 #[.slice A l.length c] w (ToldF w G (tlist l tnil)) := by
  unfold maxLen at hl
  have HL := Lib.hid h
  have HST := Lib.hid (pa_start hG (l := l) (nil_leaf w))
  clear h
  go_enter Try.func37, Try.ntmps37
  go_wp2_with fail
  go_loopw [4] (fun i wr => PaRel w.heap.size w G l tnil i wr) (fun i _ => (intOf i + 1).toNat)
  case atStart => exact HST.out
  case round =>
    obtain ⟨j, k7, n7, s7, A7, m7, c7, hj, rfl, hta, hB1, hB2, hb⟩ := hrel
    obtain ⟨p0, p1, p2, p3, q0, q1, q2, q3⟩ := hB2.four
    have HT := Lib.hid hta; have HB1 := Lib.hid hB1; have HB2 := Lib.hid hB2; have HB := Lib.hid hb
    clear hta hB1 hB2 hb
    cases j with
    | zero =>
      have hT := HT.out
      rw [List.drop_zero] at hT
      have HF := Lib.hid (pa_end (Nat.le_refl _) hT HB.out)
      obtain ⟨r0, r1, r2, r3, s0, s1, s2, s3⟩ := HB1.out.four
      clear hT
      rw [show ((0 : Nat) : Int) - 1 = -1 from rfl]
      go_wp2_with fail
      exact bodyPost_ret (v := .agg #[.int .i64 k7, .int .i64 n7, .string s7, .slice A7 m7 c7]) (by simp [results, Try.results37, go_sem, r0, r1, r2, r3]) rfl ⟨_, rfl, HF.out.1, HF.out.2⟩
    | succ m =>
      rw [show ((m + 1 : Nat) : Int) - 1 = (m : Int) from by omega]
      obtain ⟨u, hu⟩ : ∃ u, l[m]? = some u := ⟨_, List.getElem?_eq_getElem (by omega)⟩
      obtain ⟨b, o, A1, c1, rfl, hb1, d0, d1, d2, d3, hta, _⟩ := (HL.out.under HB.out hG).at_ hu
      have hlt : m < l.length := by omega
      have HU := Lib.hid (tlist_drop (e := tnil) hu)
      obtain ⟨r0, r1, r2, r3, s0, s1, s2, s3⟩ := (HB2.out.alloc (.cells #[.int .i64 u.k, .int .i64 u.n, .string u.s, .slice A1 u.l.length c1, .int .i64 k7, .int .i64 n7, .string s7, .slice A7 m7 c7] 24)).four
      have HTA := Lib.hid (HL.out.at_ hu)
      clear hu hta
      go_wp2_with fail
      go_still_tail 5, (by kernel_rfl)
      change wpList _ _ _ _ _ wr.drew
      go_wp2_with fail
      refine ⟨pa_step (Nat.le_refl _) hG hlt HU.out ?_ HT.out HB1.out HB2.out HB.out, by simp [intOf]⟩
      obtain ⟨_, _, A5, c5, hA5, hb5, e0, e1, e2, e3, hta5, hk5⟩ := HTA.out
      injection hA5 with hA5
      injection hA5 with f1 f2
      subst f1 f2
      have e3' := (HB.out.cell (p := ⟨b, o + m * 4 + 3, none⟩) (hG _ hb5)).trans e3
      rw [d3] at e3'
      injection e3' with e3'
      injection e3' with g1 g2 g3
      subst g1 g3
      exact TAt.of hta5 hk5

/-! ### SameBinds -/
open Classical in
noncomputable def eqBs (a b : List Bnd) : Bool := decide (a = b)
theorem eqBs_iff {a b : List Bnd} : eqBs a b = true ↔ a = b := by unfold eqBs; simp
theorem eqBs_no {a b : List Bnd} : eqBs a b = false ↔ a ≠ b := by unfold eqBs; simp
theorem BsAt.later {w w' : World} {A : Option Addr} {l : List Bnd} (h : BsAt w (· < w.heap.size) A l) (hb : Below w.heap.size w w') : BsAt w' (· < w'.heap.size) A l := (h.keep fun p hp => hb.cell hp).mono fun b hb' => Nat.lt_of_lt_of_le hb' hb.size
set_option maxRecDepth 100000 in
set_option maxHeartbeats 4000000 in
theorem sameBinds_any (l l' : List Bnd) (A A' : Option Addr) (c c' : Nat) (w : World) (h : BsAt w (· < w.heap.size) A l) (h' : BsAt w (· < w.heap.size) A' l') (hl : l.length ≤ maxLen) (hl' : l'.length ≤ maxLen) :
    Calls Try.prog 16 #[.slice A l.length c, .slice A' l'.length c'] w fun e w' => e = .returned (.bool (eqBs l l')) ∧ Below w.heap.size w w' := by
  unfold maxLen at hl hl'
  have HR := Lib.hid (Below.refl w.heap.size w)
  by_cases hlen : l.length = l'.length
  · have HL := Lib.hid hlen
    rw [← hlen]
    clear hlen hl'
    go_enter Try.func16, Try.ntmps16
    go_wp2_with fail
    go_loopw [5] (fun i wr => ∃ k : Nat, k ≤ l.length ∧ i = .int .i64 (k : Int) ∧ l.take k = l'.take k ∧ Below w.heap.size w wr) (fun i _ => l.length - (intOf i).toNat)
    case atStart => exact ⟨0, Nat.zero_le _, rfl, by simp, HR.out⟩
    case round =>
      obtain ⟨k, hk, rfl, htk, hb⟩ := hrel
      have HB := Lib.hid hb
      have HT := Lib.hid htk
      clear hb htk
      by_cases hlt : k < l.length
      · obtain ⟨⟨pn, u⟩, hu⟩ : ∃ u, l[k]? = some u := ⟨_, List.getElem?_eq_getElem hlt⟩
        obtain ⟨⟨pn', u'⟩, hu'⟩ : ∃ u, l'[k]? = some u := ⟨_, List.getElem?_eq_getElem (by have := HL.out; omega)⟩
        obtain ⟨b, o, A1, c1, rfl, hb1, d, d0, d1, d2, d3, hta⟩ := (h.later HB.out).at_ hu
        obtain ⟨b', o', A2, c2, rfl, hb2, e, e0, e1, e2, e3, hta'⟩ := (h'.later HB.out).at_ hu'
        simp only at d d0 d1 d2 d3 e e0 e1 e2 e3 hta hta'
        have HTA := Lib.hid (show TA wr u _ from hta)
        have HTA' := Lib.hid (show TA wr u' _ from hta')
        clear hta hta' h h'
        have HU := Lib.hid hu; have HU' := Lib.hid hu'
        clear hu hu'
        by_cases hpn : pn = pn'
        · subst hpn
          have HC := Lib.hid (sameTerm_any u u' _ _ wr.drew HTA.out.drew HTA'.out.drew)
          go_wp2_with fail
          go_still_tail 22, (by kernel_rfl)
          change wpList _ _ _ _ _ wr.drew
          by_cases he : u = u'
          · have HE := Lib.hid he
            have hq := eqT_iff.2 he
            clear he
            rw [hq] at HC
            go_wp2_with fail
            refine HC.out.mono ?_
            rintro e w2 ⟨rfl, hb2⟩
            have HB2 := Lib.hid hb2
            clear hb2
            go_wp2_with fail
            go_roundw
            case rel => exact ⟨k + 1, by omega, by go_num, by rw [List.take_add_one, List.take_add_one, HT.out, HU.out, HU'.out, HE.out], bnext HB.out (bundrew HB2.out)⟩
            case measure => simp [intOf]; omega
          · have HE := Lib.hid he
            have hq := eqT_no.2 he
            clear he
            rw [hq] at HC
            go_wp2_with fail
            refine HC.out.mono ?_
            rintro e w2 ⟨rfl, hb2⟩
            have HB2 := Lib.hid hb2
            clear hb2
            go_wp2_with fail
            go_ret
            refine ⟨ret1_b (eqBs_no.2 fun hh => HE.out ?_).symm, bnext HB.out (bundrew HB2.out)⟩
            have h1 := HU.out
            rw [hh, HU'.out] at h1
            injection h1 with h1
            injection h1 with h1 h2
            exact h2.symm
        · have hne : (pn != pn') = true := by simpa using hpn
          have HE := Lib.hid (eqBs_no.2 fun (hh : l = l') => hpn (by have h1 := HU.out; rw [hh, HU'.out] at h1; injection h1 with h1; injection h1 with h1 h2; exact h1.symm))
          clear hpn
          go_wp2_with fail
          go_quiet (fail)
          go_wp2_with fail
          go_ret
          exact ⟨ret1_b HE.out.symm, HB.out.os, HB.out.tape, HB.out.output, HB.out.size, HB.out.block⟩
      · have : k = l.length := by omega
        subst this
        have HE : Hid (l = l') := by
          have := HT.out
          rw [List.take_length, List.take_of_length_le (by have := HL.out; omega)] at this
          exact this
        clear h h'
        go_wp2_with fail
        go_ret
        exact ⟨ret1_b (eqBs_iff.2 HE.out).symm, HB.out⟩
  · have HE := Lib.hid (eqBs_no.2 fun (hh : l = l') => hlen (by rw [hh]))
    clear h h'
    go_enter Try.func16, Try.ntmps16
    go_wp2_with fail
    go_ret
    exact ⟨ret1_b HE.out.symm, HR.out⟩
end Go.Proofs.Ytlaplakaifmpeaa.Pt
