/- flat.reader's take and head, by contracts. -/
import Derived.Test.YtfcialleekfjmaaFlSt
import Derived.Test.YtfcialleekfjmaaFlSpec
import Derived.Test.YtfcialleekfjmaaWordUn7
namespace Go.Proofs.Ytfcialleekfjmaa.Fl
open Go.RowKit K At Wd
set_option linter.unusedVariables false
set_option linter.unusedSimpArgs false

/-- The reader at gR. -/
def Rdr (w : World) (gR : Nat) (p : Value) (A : Option Addr) (n c : Nat) (q : Int) (b : Bool) : Prop := Blk w gR 77 #[p, .slice A n c, .int .i64 q, .bool b]
section
variable {w w' : World} {gR : Nat} {p : Value} {A : Option Addr} {n c : Nat} {q : Int} {b : Bool}
theorem Rdr.four (h : Rdr w gR p A n c q b) : w.cell? ⟨gR, 0, none⟩ = some p ∧ w.cell? ⟨gR, 1, none⟩ = some (.slice A n c) ∧ w.cell? ⟨gR, 2, none⟩ = some (.int .i64 q) ∧ w.cell? ⟨gR, 3, none⟩ = some (.bool b) ∧ w.frozen? ⟨gR, 2, none⟩ = false ∧ w.frozen? ⟨gR, 3, none⟩ = false :=
  ⟨by rw [Blk.cell h]; rfl, by rw [Blk.cell h]; rfl, by rw [Blk.cell h]; rfl, by rw [Blk.cell h]; rfl, Blk.frozen h 2, Blk.frozen h 3⟩
theorem Rdr.drewN (h : Rdr w gR p A n c q b) (k : Nat) : Rdr (w.drewN k) gR p A n c q b := h
theorem Rdr.below (h : Rdr w gR p A n c q b) (hb : Below w.heap.size w w') : Rdr w' gR p A n c q b := Blk.below h hb (Blk.lt h)
theorem Rdr.at_ (h : Rdr w gR p A n c q b) (q' : Int) : Rdr (w.setCell ⟨gR, 2, none⟩ (.int .i64 q')) gR p A n c q' b := by
  unfold Rdr at h ⊢; simpa using Blk.set_ h 2 (.int .i64 q')
theorem Rdr.bad (h : Rdr w gR p A n c q b) (b' : Bool) : Rdr (w.setCell ⟨gR, 3, none⟩ (.bool b')) gR p A n c q b' := by
  unfold Rdr at h ⊢; simpa using Blk.set_ h 3 (.bool b')
end
set_option maxRecDepth 100000 in
set_option maxHeartbeats 4000000 in
theorem take_no (gR : Nat) (p : Value) (A : Option Addr) (n c : Nat) (q m : Nat) (w : World) (h : Rdr w gR p A n c q false) (hn : n ≤ 65536) (hq : q ≤ n) (hm0 : m ≤ 65536) (hm : n < q + m) :
    Calls Try.prog 40 #[.pointer (some ⟨gR, 0, none⟩), .int .i64 (m : Int)] w fun e w' => e = .returned (.slice none 0 0) ∧ Rdr w' gR p A n c q true ∧ Keep (fun b => b = gR) w w' := by
  obtain ⟨c0, c1, c2, c3, f2, f3⟩ := h.four
  have H := Lib.hid h
  have hd : decide ((n : Int) - (q : Int) < (m : Int)) = true := by simp; omega
  have hlt : (n : Int) - (q : Int) < (m : Int) := by omega
  clear h
  go_enter Try.func40, Try.ntmps40
  go_wp2_with fail
  go_quiet (fail)
  go_wp2_with fail
  go_ret
  exact ⟨rfl, ((H.out.drewN _).bad true), ((Keep.refl (fun b => b = gR) w).drewN _).setCell (p := ⟨gR, 3, none⟩) (.inl rfl) _⟩
theorem Reads.first {w : World} {B n k : Nat} {A : Option Addr} {xs : List Value} (h : Reads w B 1 A n xs) (hk : k ≤ n) : Reads w B 1 A k (xs.take k) := by
  refine ⟨by rw [List.length_take, h.1]; omega, fun h0 => ?_⟩
  obtain ⟨ad, rfl, hb, hc⟩ := h.2 (by omega)
  refine ⟨ad, rfl, hb, fun j u hu => hc j u ?_⟩
  rw [List.getElem?_take] at hu
  split at hu
  · exact hu
  · cases hu
theorem took_reads {w : World} {B q m c : Nat} {A : Option Addr} {l : List Int} (h : Reads w B 1 A l.length (u64s l)) (hc : l.length ≤ c) (hm : q + m ≤ l.length) : Reads w B 1 (if c = q then A else A.map (·.add q)) m (u64s ((l.drop q).take m)) := by
  have h1 := Fl.Reads.first (h.cut (k := q) (cap := c) (by omega) hc) (k := m) (by omega)
  rw [Nat.mul_one] at h1
  unfold u64s at h1 ⊢
  rw [List.map_take, List.map_drop]
  exact h1
theorem took_one {l : List Int} {q : Nat} {x : Int} {u : Value} (hx : l[q]? = some x) (hu : (u64s ((l.drop q).take 1))[0]? = some u) : u = .int .u64 x := by
  unfold u64s at hu
  rw [List.getElem?_map, List.getElem?_take, if_pos (by omega), List.getElem?_drop, Nat.add_zero, hx] at hu
  injection hu with hu
  exact hu.symm
/-- What a take answers. -/
def Took (w : World) (gR : Nat) (p : Value) (A : Option Addr) (l : List Int) (c q m : Nat) (e : Ending) (w' : World) : Prop :=
  ∃ A' c', e = .returned (.slice A' m c') ∧ Rdr w' gR p A l.length c ((q + m : Nat) : Int) false ∧ Keep (fun b => b = gR) w w' ∧ Reads w' gR 1 A' m (u64s ((l.drop q).take m))
set_option maxRecDepth 100000 in
set_option maxHeartbeats 4000000 in
theorem take_ok (gR : Nat) (p : Value) (A : Option Addr) (l : List Int) (c : Nat) (q m : Nat) (w : World) (h : Rdr w gR p A l.length c q false) (hl : Reads w gR 1 A l.length (u64s l)) (hc : l.length ≤ c) (hA : A = none → c = 0) (hn : l.length ≤ 65536) (hm : q + m ≤ l.length) :
    Calls Try.prog 40 #[.pointer (some ⟨gR, 0, none⟩), .int .i64 (m : Int)] w (Took w gR p A l c q m) := by
  obtain ⟨c0, c1, c2, c3, f2, f3⟩ := h.four
  have H := Lib.hid h
  have HL := Lib.hid hl
  have hd : decide ((l.length : Int) - (q : Int) < (m : Int)) = false := by simp; omega
  have hlt : ¬ ((l.length : Int) - (q : Int) < (m : Int)) := by omega
  clear h hl
  go_enter Try.func40, Try.ntmps40
  go_wp2_with fail
  go_quiet (fail)
  go_wp2_with fail
  have h1 := (H.out.drewN nq).at_ ((q : Int) + (m : Int))
  have hk1 := ((Keep.refl (fun b => b = gR) w).drewN nq).setCell (p := ⟨gR, 2, none⟩) (.inl rfl) (.int .i64 ((q : Int) + (m : Int)))
  have hl1 := (HL.out.drewN nq).setCell (p := ⟨gR, 2, none⟩) (Nat.le_refl _) (.int .i64 ((q : Int) + (m : Int)))
  obtain ⟨w1, hw1⟩ : ∃ x, (w.drewN nq).setCell ⟨gR, 2, none⟩ (.int .i64 ((q : Int) + (m : Int))) = x := ⟨_, rfl⟩
  rw [hw1] at h1 hk1 hl1 ⊢
  obtain ⟨d0, d1, d2, d3, _, _⟩ := h1.four
  have H1 := Lib.hid h1; have HK1 := Lib.hid hk1; have HL1 := Lib.hid hl1
  clear h1 hk1 hl1 hw1 c0 c1 c2 c3 f2 f3 H HL
  have e1 : (q : Int) + (m : Int) - (m : Int) = (q : Int) := by omega
  have e2 : (q : Int) ≤ (q : Int) + (m : Int) := by omega
  have e3 : (q : Int) + (m : Int) ≤ (c : Int) := by omega
  go_quiet (fail)
  go_wp2_with fail
  all_goals go_ret
  all_goals first
    | exact ⟨A.map (·.add q), c - q, rfl, by rw [Int.natCast_add]; exact H1.out, HK1.out.drewN _, by
        have hr := took_reads HL1.out hc hm
        rw [if_neg (by assumption)] at hr
        exact hr.drewN _⟩
    | subst h
      exact ⟨A, 0, rfl, by rw [Int.natCast_add]; exact H1.out, HK1.out.drewN _, by
        have hr := took_reads HL1.out hc hm
        rw [if_pos rfl] at hr
        exact hr.drewN _⟩
set_option maxRecDepth 100000 in
set_option maxHeartbeats 4000000 in
theorem head_any (gR : Nat) (p : Value) (A : Option Addr) (l : List Int) (c : Nat) (q : Nat) (k : Int) (hk : (Lit.int .i64 k).wf = true) (w : World) (h : Rdr w gR p A l.length c q false) (hl : Reads w gR 1 A l.length (u64s l)) (hU : ∀ x ∈ l, U64 x) (hc : l.length ≤ c) (hA : A = none → c = 0) (hn : l.length ≤ 65536) (hq : q ≤ l.length) :
    Calls Try.prog 60 #[.pointer (some ⟨gR, 0, none⟩), .int .i64 k] w fun e w' => Keep (fun b => b = gR) w w' ∧
      ((∃ x, l[q]? = some x ∧ unE x = 0 ∧ unK x = k ∧ e = .returned (.int .i64 (unN x)) ∧ Rdr w' gR p A l.length c ((q + 1 : Nat) : Int) false) ∨
       ((∀ x, l[q]? = some x → ¬ (unE x = 0 ∧ unK x = k)) ∧ e = .returned (.int .i64 0) ∧ ∃ q' : Int, Rdr w' gR p A l.length c q' true)) := by
  by_cases hlt : q < l.length
  · obtain ⟨x, hx⟩ : ∃ x, l[q]? = some x := ⟨_, List.getElem?_eq_getElem hlt⟩
    have hxU := hU x (List.mem_of_getElem? hx)
    have HT := Lib.hid (take_ok gR p A l c q 1 w h hl hc hA hn (by omega))
    have HX := Lib.hid hx
    have HUN := Lib.hid (fun (w : World) => unpack_any x hxU.1 hxU.2 w)
    clear h hl hx hxU
    by_cases hu : unE x = 0 ∧ unK x = k
    · have b1 : (unE x != 0) = false := by rw [hu.1]; rfl
      have b2 : (unK x != k) = false := by rw [hu.2]; simp
      have HU := Lib.hid hu
      clear hu
      go_enter Try.func60, Try.ntmps60
      go_wp2_with fail
      refine HT.out.mono ?_
      rintro e w1 ⟨A', c', rfl, hr1, hk1, hrd⟩
      obtain ⟨d0, d1, d2, d3, f2, f3⟩ := hr1.four
      obtain ⟨ad, u, rfl, hab, hu, hcell⟩ := hrd.at_ (k := 0) (by omega)
      obtain rfl : u = .int .u64 x := took_one HX.out hu
      have hcell0 : w1.cell? ad = some (.int .u64 x) := by simpa [Addr.add] using hcell
      have HR1 := Lib.hid hr1; have HK1 := Lib.hid hk1
      clear hr1 hk1 hrd hu
      go_wp2_with (first
        | (go_at_call 59; refine (HUN.out _).mono ?_; rintro e w2 ⟨rfl, hb2⟩; have hr2 := HR1.out.below hb2; obtain ⟨_, _, _, _, g2, g3⟩ := hr2.four; have HR2 := Lib.hid hr2; have HB2 := Lib.hid hb2; clear hb2 hr2))
      go_ret
      exact ⟨HK1.out.trans (Keep.new (F := fun b => b = gR) HB2.out) (fun _ _ h => h), .inl ⟨x, HX.out, HU.out.1, HU.out.2, rfl, HR1.out.below HB2.out⟩⟩
    · by_cases he : unE x = 0
      · have b1 : (unE x != 0) = false := by rw [he]; rfl
        have b2 : (unK x != k) = true := by simp; intro e; exact hu ⟨he, e⟩
        have HU := Lib.hid hu
        clear hu he
        go_enter Try.func60, Try.ntmps60
        go_wp2_with fail
        refine HT.out.mono ?_
        rintro e w1 ⟨A', c', rfl, hr1, hk1, hrd⟩
        obtain ⟨d0, d1, d2, d3, f2, f3⟩ := hr1.four
        obtain ⟨ad, u, rfl, hab, hu, hcell⟩ := hrd.at_ (k := 0) (by omega)
        obtain rfl : u = .int .u64 x := took_one HX.out hu
        have hcell0 : w1.cell? ad = some (.int .u64 x) := by simpa [Addr.add] using hcell
        have HR1 := Lib.hid hr1; have HK1 := Lib.hid hk1
        clear hr1 hk1 hrd hu
        go_wp2_with (first
          | (go_at_call 59; refine (HUN.out _).mono ?_; rintro e w2 ⟨rfl, hb2⟩; have hr2 := HR1.out.below hb2; obtain ⟨_, _, _, _, g2, g3⟩ := hr2.four; have HR2 := Lib.hid hr2; have HB2 := Lib.hid hb2; clear hb2 hr2))
        go_ret
        exact ⟨(HK1.out.trans (Keep.new (F := fun b => b = gR) HB2.out) (fun _ _ h => h)).setCell (p := ⟨gR, 3, none⟩) (.inl rfl) _, .inr ⟨fun y hy => by rw [HX.out] at hy; injection hy with hy; subst hy; exact HU.out, rfl, _, HR2.out.bad true⟩⟩
      · have b1 : (unE x != 0) = true := by simpa using he
        have HU := Lib.hid hu
        clear hu he
        go_enter Try.func60, Try.ntmps60
        go_wp2_with fail
        refine HT.out.mono ?_
        rintro e w1 ⟨A', c', rfl, hr1, hk1, hrd⟩
        obtain ⟨d0, d1, d2, d3, f2, f3⟩ := hr1.four
        obtain ⟨ad, u, rfl, hab, hu, hcell⟩ := hrd.at_ (k := 0) (by omega)
        obtain rfl : u = .int .u64 x := took_one HX.out hu
        have hcell0 : w1.cell? ad = some (.int .u64 x) := by simpa [Addr.add] using hcell
        have HR1 := Lib.hid hr1; have HK1 := Lib.hid hk1
        clear hr1 hk1 hrd hu
        go_wp2_with (first
          | (go_at_call 59; refine (HUN.out _).mono ?_; rintro e w2 ⟨rfl, hb2⟩; have hr2 := HR1.out.below hb2; obtain ⟨_, _, _, _, g2, g3⟩ := hr2.four; have HR2 := Lib.hid hr2; have HB2 := Lib.hid hb2; clear hb2 hr2))
        go_ret
        exact ⟨(HK1.out.trans (Keep.new (F := fun b => b = gR) HB2.out) (fun _ _ h => h)).setCell (p := ⟨gR, 3, none⟩) (.inl rfl) _, .inr ⟨fun y hy => by rw [HX.out] at hy; injection hy with hy; subst hy; exact HU.out, rfl, _, HR2.out.bad true⟩⟩
  · obtain rfl : q = l.length := by omega
    have HT := Lib.hid (take_no gR p A l.length c l.length 1 w h hn (Nat.le_refl _) (by omega) (by omega))
    clear h hl
    go_enter Try.func60, Try.ntmps60
    go_wp2_with fail
    refine HT.out.mono ?_
    rintro e w1 ⟨rfl, hr1, hk1⟩
    obtain ⟨d0, d1, d2, d3, f2, f3⟩ := hr1.four
    have HR1 := Lib.hid hr1; have HK1 := Lib.hid hk1
    clear hr1 hk1
    go_wp2_with fail
    go_ret
    exact ⟨HK1.out, .inr ⟨fun y hy => by simp at hy, rfl, _, HR1.out⟩⟩
set_option maxRecDepth 100000 in
set_option maxHeartbeats 4000000 in
theorem take_bad (gR : Nat) (p : Value) (A : Option Addr) (n c : Nat) (q m : Int) (w : World) (h : Rdr w gR p A n c q true) :
    Calls Try.prog 40 #[.pointer (some ⟨gR, 0, none⟩), .int .i64 m] w fun e w' => e = .returned (.slice none 0 0) ∧ Rdr w' gR p A n c q true ∧ Keep (fun b => b = gR) w w' := by
  obtain ⟨c0, c1, c2, c3, f2, f3⟩ := h.four
  have H := Lib.hid h
  clear h
  go_enter Try.func40, Try.ntmps40
  go_wp2_with fail
  go_quiet (fail)
  go_wp2_with fail
  go_ret
  exact ⟨rfl, ((H.out.drewN _).bad true), ((Keep.refl (fun b => b = gR) w).drewN _).setCell (p := ⟨gR, 3, none⟩) (.inl rfl) _⟩
end Go.Proofs.Ytfcialleekfjmaa.Fl
