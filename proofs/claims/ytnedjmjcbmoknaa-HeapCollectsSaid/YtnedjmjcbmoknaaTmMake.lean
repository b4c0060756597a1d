/- Num, Sym, Tup, None, Pairs of tenurekit, by contracts: terms that are made. -/
import Derived.Test.YtnedjmjcbmoknaaTmBig
namespace Go.Proofs.Ytnedjmjcbmoknaa.K
open Go.RowKit
set_option linter.unusedVariables false
set_option linter.unusedSimpArgs false

/-- A term told, in memory that is there then. -/
def Told (w : World) (t : Tm) (e : Ending) (w' : World) : Prop := ∃ v, e = .returned v ∧ TA w' t v ∧ Below w.heap.size w w'
theorem num_any (n : Int) (w : World) (hn : (Lit.int .i64 n).wf = true) : Calls Try.prog 9 #[.int .i64 n] w (Told w (tnum n)) := by
  have HN := Lib.hid hn
  clear hn
  go_enter Try.func9, Try.ntmps9
  go_wp2
  exact bodyPost_ret (v := .agg #[.int .i64 1, .int .i64 n, .string ⟨#[]⟩, .slice none 0 0]) (by simp [results, Try.results9, go_sem]) rfl ⟨_, rfl, ta_num _ n HN.out, ballocs (Below.refl w.heap.size w) _⟩
theorem none_any (w : World) : Calls Try.prog 13 #[] w (Told w tnil) := by
  go_enter Try.func13, Try.ntmps13
  go_wp2
  exact bodyPost_ret (v := .agg #[.int .i64 8, .int .i64 0, .string ⟨#[]⟩, .slice none 0 0]) (by simp [results, Try.results13, go_sem]) rfl ⟨_, rfl, ta_nil _, ballocs (Below.refl w.heap.size w) _⟩
theorem tup_any (l : List Tm) (A : Option Addr) (c : Nat) (w : World) (h : TsA w A l) (hl : l.length ≤ c) (hc : c ≤ maxLen) (hA : A = none → c = 0) : Calls Try.prog 8 #[.slice A l.length c] w (Told w (ttup l)) := by
  have HN := Lib.hid (fun (o : Obj) => ta_tup (h.alloc o) hl hc hA)
  clear h hl hc hA
  go_enter Try.func8, Try.ntmps8
  go_wp2
  exact bodyPost_ret (v := .agg #[.int .i64 7, .int .i64 0, .string ⟨#[]⟩, .slice A l.length c]) (by simp [results, Try.results8, go_sem]) rfl ⟨_, rfl, HN.out _, ballocs (Below.refl w.heap.size w) _⟩

theorem num_val (n : Int) (w : World) : Calls Try.prog 9 #[.int .i64 n] w fun e w' => e = .returned (.agg #[.int .i64 1, .int .i64 n, .string ⟨#[]⟩, .slice none 0 0]) ∧ Below w.heap.size w w' := by
  go_enter Try.func9, Try.ntmps9
  go_wp2
  exact bodyPost_ret (v := .agg #[.int .i64 1, .int .i64 n, .string ⟨#[]⟩, .slice none 0 0]) (by simp [results, Try.results9, go_sem]) rfl ⟨rfl, ballocs (Below.refl w.heap.size w) _⟩
theorem none_val (w : World) : Calls Try.prog 13 #[] w fun e w' => e = .returned (.agg #[.int .i64 8, .int .i64 0, .string ⟨#[]⟩, .slice none 0 0]) ∧ Below w.heap.size w w' := by
  go_enter Try.func13, Try.ntmps13
  go_wp2
  exact bodyPost_ret (v := .agg #[.int .i64 8, .int .i64 0, .string ⟨#[]⟩, .slice none 0 0]) (by simp [results, Try.results13, go_sem]) rfl ⟨rfl, ballocs (Below.refl w.heap.size w) _⟩
theorem tup_val (A : Option Addr) (m c : Nat) (w : World) : Calls Try.prog 8 #[.slice A m c] w fun e w' => e = .returned (.agg #[.int .i64 7, .int .i64 0, .string ⟨#[]⟩, .slice A m c]) ∧ Below w.heap.size w w' := by
  go_enter Try.func8, Try.ntmps8
  go_wp2
  exact bodyPost_ret (v := .agg #[.int .i64 7, .int .i64 0, .string ⟨#[]⟩, .slice A m c]) (by simp [results, Try.results8, go_sem]) rfl ⟨rfl, ballocs (Below.refl w.heap.size w) _⟩

/-! ### Pairs -/
def PaRel (w : World) (G : Nat → Prop) (l : List Tm) (e : Tm) (i : Value) (wr : World) : Prop :=
  ∃ (j : Nat) (k n : Int) (s : ByteArray) (A : Option Addr) (m c : Nat), j ≤ l.length ∧ i = .int .i64 ((j : Int) - 1) ∧ TAt wr (fun b => b < wr.heap.size ∧ b ≠ w.heap.size + 1 ∧ b ≠ w.heap.size + 1 + 1 ∧ (G b ∨ w.heap.size ≤ b)) (tlist (l.drop j) e) (.agg #[.int .i64 k, .int .i64 n, .string s, .slice A m c]) ∧
    Blk wr (w.heap.size + 1) 28 #[.int .i64 0, .int .i64 0, .string .empty, .slice none 0 0] ∧ Blk wr (w.heap.size + 1 + 1) 28 #[.int .i64 k, .int .i64 n, .string s, .slice A m c] ∧ Below w.heap.size w wr
theorem pa_start {w : World} {G : Nat → Prop} (hG : ∀ b, G b → b < w.heap.size) {l : List Tm} {e : Tm} {k n : Int} {s : ByteArray} {A : Option Addr} {q c : Nat} (he : TAt w G e (.agg #[.int .i64 k, .int .i64 n, .string s, .slice A q c])) (o : Obj) :
    PaRel w G l e (.int .i64 ((l.length : Int) - 1)) (((w.alloc o).alloc (.cells #[.int .i64 0, .int .i64 0, .string ⟨#[]⟩, .slice none 0 0] 28)).alloc (.cells #[.int .i64 k, .int .i64 n, .string s, .slice A q c] 28)) := by
  have h1 := Blk.new (w.alloc o) 28 #[.int .i64 0, .int .i64 0, .string ⟨#[]⟩, .slice none 0 0]
  have h2 := Blk.new ((w.alloc o).alloc (.cells #[.int .i64 0, .int .i64 0, .string ⟨#[]⟩, .slice none 0 0] 28)) 28 #[.int .i64 k, .int .i64 n, .string s, .slice A q c]
  simp only [World.size_alloc] at h1 h2
  refine ⟨l.length, k, n, s, A, q, c, Nat.le_refl _, rfl, ?_, h1.alloc _, h2, ballocs (ballocs (ballocs (Below.refl _ _) _) _) _⟩
  rw [List.drop_length]
  refine (TAt.under he (ballocs (ballocs (ballocs (Below.refl _ _) o) _) _) hG).mono fun b hb => ?_
  have := hG b hb
  simp
  exact ⟨by omega, by omega, by omega, .inl hb⟩
theorem pa_drew {w wr : World} {G : Nat → Prop} {l : List Tm} {e : Tm} {i : Value} (h : PaRel w G l e i wr) : PaRel w G l e i wr.drew := by
  obtain ⟨j, k, n, s, A, m, c, hj, hi, hta, hB1, hB2, hb⟩ := h
  exact ⟨j, k, n, s, A, m, c, hj, hi, hta.keep (w' := wr.drew) (fun _ _ => rfl), hB1.drew, hB2.drew, btodrew hb⟩
theorem pa_step {w wr : World} {G : Nat → Prop} (hG : ∀ b, G b → b < w.heap.size) {l : List Tm} {e u : Tm} {m c1 : Nat} {A1 : Option Addr} {k n : Int} {s : ByteArray} {A : Option Addr} {q c : Nat} (hm : m < l.length) (hU : tlist (l.drop m) e = tcons u (tlist (l.drop (m + 1)) e)) (hu : TAt w G u (.agg #[.int .i64 u.k, .int .i64 u.n, .string u.s, .slice A1 u.l.length c1]))
    (hT : TAt wr (fun b => b < wr.heap.size ∧ b ≠ w.heap.size + 1 ∧ b ≠ w.heap.size + 1 + 1 ∧ (G b ∨ w.heap.size ≤ b)) (tlist (l.drop (m + 1)) e) (.agg #[.int .i64 k, .int .i64 n, .string s, .slice A q c]))
    (hB1 : Blk wr (w.heap.size + 1) 28 #[.int .i64 0, .int .i64 0, .string .empty, .slice none 0 0]) (hB2 : Blk wr (w.heap.size + 1 + 1) 28 #[.int .i64 k, .int .i64 n, .string s, .slice A q c]) (hB : Below w.heap.size w wr) :
    PaRel w G l e (.int .i64 ((m : Int) - 1)) (put4 (wr.alloc (.cells #[.int .i64 u.k, .int .i64 u.n, .string u.s, .slice A1 u.l.length c1, .int .i64 k, .int .i64 n, .string s, .slice A q c] 28)) (w.heap.size + 1 + 1) (.int .i64 9) (.int .i64 0) (.string ⟨#[]⟩) (.slice (some ⟨wr.heap.size, 0, none⟩) 2 2)).drew := by
  apply pa_drew
  have hlt := hB2.lt
  have hu' : TAt wr (fun b => b < wr.heap.size ∧ b ≠ w.heap.size + 1 ∧ b ≠ w.heap.size + 1 + 1 ∧ (G b ∨ w.heap.size ≤ b)) u (.agg #[.int .i64 u.k, .int .i64 u.n, .string u.s, .slice A1 u.l.length c1]) := (TAt.under hu hB hG).mono fun b hb => by have := hG b hb; exact ⟨by omega, by omega, by omega, .inl hb⟩
  refine ⟨m, _, _, _, _, _, _, by omega, rfl, ?_, put4_far (hB1.alloc _) (by omega) _ _ _ _, put4_blk (hB2.alloc _) _ _ _ _, put4_below (ballocs hB _) (by omega) _ _ _ _⟩
  rw [hU]
  have h3 := ta_consF hu' hT (fun b hb => hb.1) #[.int .i64 u.k, .int .i64 u.n, .string u.s, .slice A1 u.l.length c1, .int .i64 k, .int .i64 n, .string s, .slice A q c] rfl
  refine (h3.keep fun p hp => ?_).mono fun b hb => ?_
  · exact put4_cell _ _ _ _ _ _ p (by
      rcases hp with hp | hp
      · exact hp.2.2.1
      · omega)
  · have hz : (put4 (wr.alloc (.cells #[.int .i64 u.k, .int .i64 u.n, .string u.s, .slice A1 u.l.length c1, .int .i64 k, .int .i64 n, .string s, .slice A q c] 28)) (w.heap.size + 1 + 1) (.int .i64 9) (.int .i64 0) (.string ⟨#[]⟩) (.slice (some ⟨wr.heap.size, 0, none⟩) 2 2)).heap.size = wr.heap.size + 1 := (put4_size _ _ _ _ _ _).trans (by simp)
    rw [hz]
    rcases hb with hb | hb
    · exact ⟨by omega, hb.2⟩
    · exact ⟨by omega, by omega, by omega, .inr (by omega)⟩
/-- A term told, in memory that is there then: of the blocks G, or new. -/
def ToldF (w : World) (G : Nat → Prop) (t : Tm) (e : Ending) (w' : World) : Prop := ∃ v, e = .returned v ∧ TAt w' (fun b => b < w'.heap.size ∧ (G b ∨ w.heap.size ≤ b)) t v ∧ Below w.heap.size w w'
theorem ToldF.told {w : World} {G : Nat → Prop} {t : Tm} {e : Ending} {w' : World} (h : ToldF w G t e w') : Told w t e w' := by
  obtain ⟨v, he, ht, hb⟩ := h
  exact ⟨v, he, ht.mono fun b hb => hb.1, hb⟩
theorem pa_end {w wr : World} {G : Nat → Prop} {t : Tm} {x0 x1 x2 x3 : Value} (hT : TAt wr (fun b => b < wr.heap.size ∧ b ≠ w.heap.size + 1 ∧ b ≠ w.heap.size + 1 + 1 ∧ (G b ∨ w.heap.size ≤ b)) t (.agg #[x0, x1, x2, x3])) (hB : Below w.heap.size w wr) :
    TAt (put4 wr (w.heap.size + 1) x0 x1 x2 x3) (fun b => b < (put4 wr (w.heap.size + 1) x0 x1 x2 x3).heap.size ∧ (G b ∨ w.heap.size ≤ b)) t (.agg #[x0, x1, x2, x3]) ∧ Below w.heap.size w (put4 wr (w.heap.size + 1) x0 x1 x2 x3) :=
  ⟨(hT.keep fun p hp => put4_cell _ _ _ _ _ _ p hp.2.1).mono fun b hb => ⟨by rw [put4_size]; exact hb.1, hb.2.2.2⟩, put4_below hB (by omega) _ _ _ _⟩
set_option maxRecDepth 100000 in
set_option maxHeartbeats 4000000 in
theorem pairs_at (G : Nat → Prop) (l : List Tm) (e : Tm) (A : Option Addr) (c : Nat) (v : Value) (w : World) (hG : ∀ b, G b → b < w.heap.size) (h : TsAt w G A l) (he : TAt w G e v) (hl : l.length ≤ maxLen) :
    Calls Try.prog 12 #[.slice A l.length c, v] w (ToldF w G (tlist l e)) := by
  unfold maxLen at hl
  obtain ⟨A0, c0, rfl, ok, hl0⟩ := he.inv
  obtain ⟨k0, n0, s0, l0⟩ := e
  unfold tv at he ⊢
  simp only [Tm.k_mk, Tm.n_mk, Tm.s_mk, Tm.l_mk] at he ok hl0 ⊢
  have HE := Lib.hid he
  have HL := Lib.hid h
  clear he hl0 ok h
  go_enter Try.func12, Try.ntmps12
  go_wp2_with fail
  go_loopw [6] (fun i wr => PaRel w G l (.mk k0 n0 s0 l0) i wr) (fun i _ => (intOf i + 1).toNat)
  case atStart => exact pa_start hG HE.out _
  case round =>
    obtain ⟨j, k7, n7, s7, A7, m7, c7, hj, rfl, hta, hB1, hB2, hb⟩ := hrel
    obtain ⟨p0, p1, p2, p3, q0, q1, q2, q3⟩ := hB2.four
    have HT := Lib.hid hta; have HB1 := Lib.hid hB1; have HB2 := Lib.hid hB2; have HB := Lib.hid hb
    clear hta hB1 hB2 hb
    cases j with
    | zero =>
      have hT := HT.out
      rw [List.drop_zero] at hT
      have HF := Lib.hid (pa_end hT HB.out)
      obtain ⟨r0, r1, r2, r3, s0, s1, s2, s3⟩ := HB1.out.four
      clear hT
      rw [show ((0 : Nat) : Int) - 1 = -1 from rfl]
      go_wp2_with fail
      exact bodyPost_ret (v := .agg #[.int .i64 k7, .int .i64 n7, .string s7, .slice A7 m7 c7]) (by simp [results, Try.results12, go_sem, r0, r1, r2, r3]) rfl ⟨_, rfl, HF.out.1, HF.out.2⟩
    | succ m =>
      rw [show ((m + 1 : Nat) : Int) - 1 = (m : Int) from by omega]
      obtain ⟨u, hu⟩ : ∃ u, l[m]? = some u := ⟨_, List.getElem?_eq_getElem (by omega)⟩
      obtain ⟨b, o, A1, c1, rfl, hb1, d0, d1, d2, d3, hta, _⟩ := (HL.out.under HB.out hG).at_ hu
      have hlt : m < l.length := by omega
      have HU := Lib.hid (tlist_drop (e := .mk k0 n0 s0 l0) hu)
      obtain ⟨r0, r1, r2, r3, s0, s1, s2, s3⟩ := (HB2.out.alloc (.cells #[.int .i64 u.k, .int .i64 u.n, .string u.s, .slice A1 u.l.length c1, .int .i64 k7, .int .i64 n7, .string s7, .slice A7 m7 c7] 28)).four
      have HTA := Lib.hid (HL.out.at_ hu)
      clear hu hta
      go_wp2_with fail
      go_still_tail 5, (by kernel_rfl)
      change wpList _ _ _ _ _ wr.drew
      go_wp2_with fail
      refine ⟨pa_step hG hlt HU.out ?_ HT.out HB1.out HB2.out HB.out, by simp [intOf]⟩
      obtain ⟨_, _, A5, c5, hA5, hb5, e0, e1, e2, e3, hta5, hk5⟩ := HTA.out
      injection hA5 with hA5
      injection hA5 with f1 f2
      subst f1 f2
      have e3' := (HB.out.cell (p := ⟨b, o + m * 4 + 3, none⟩) (hG _ hb5)).trans e3
      rw [d3] at e3'
      injection e3' with e3'
      injection e3' with g1 g2 g3
      subst g1 g3
      exact TAt.of hta5 hk5
theorem pairs_any (l : List Tm) (e : Tm) (A : Option Addr) (c : Nat) (v : Value) (w : World) (h : TsA w A l) (he : TA w e v) (hl : l.length ≤ maxLen) :
    Calls Try.prog 12 #[.slice A l.length c, v] w (Told w (tlist l e)) := (pairs_at _ l e A c v w (fun _ h => h) h he hl).mono fun _ _ h => h.told
end Go.Proofs.Ytnedjmjcbmoknaa.K
