/- The kit's functions over tables of atoms: Atoms, LongTexts, SameAtoms. -/
import Derived.Test.YtfcialleekfjmaaFlRNum
import Derived.Test.YtfcialleekfjmaaFlPart
namespace Go.Proofs.Ytfcialleekfjmaa.Fl
open Go.RowKit K At Wd
set_option linter.unusedVariables false
set_option linter.unusedSimpArgs false

/-- A table and the document's, of the same atoms, beside each other. -/
structure DT (w wr : World) (g h : Nat) (F G : Nat → Prop) (L : List ByteArray) : Prop where
  tab : Tab wr F g L
  rtab : RTab wr G h L
  dis : ∀ k, F k → ¬ G k
  fnew : ∀ k, F k → w.heap.size ≤ k
  gnew : ∀ k, G k → w.heap.size ≤ k
  bel : Below w.heap.size w wr
section
variable {w wr w' : World} {g h : Nat} {F G : Nat → Prop} {L : List ByteArray}
theorem DT.below (d : DT w wr g h F G L) (hb : Below wr.heap.size wr w') : DT w w' g h F G L :=
  ⟨d.tab.keep (G := fun _ => False) (Keep.new hb) (fun _ _ h => h), d.rtab.keep (G := fun _ => False) (Keep.new hb) (fun _ _ h => h), d.dis, d.fnew, d.gnew, fbelow d.bel hb⟩
/-- The table moves. -/
theorem DT.left {F' : Nat → Prop} {L' : List ByteArray} (d : DT w wr g h F G L) (hT : Tab w' F' g L') (hs : ∀ k, F' k → F k ∨ wr.heap.size ≤ k) (hk : Keep F wr w') : Tab w' F' g L' ∧ RTab w' G h L ∧ (∀ k, F' k → ¬ G k) ∧ (∀ k, F' k → w.heap.size ≤ k) ∧ Below w.heap.size w w' :=
  ⟨hT, d.rtab.keep hk (fun r hg hf => d.dis r hf hg), fun k hf hg => by
    rcases hs k hf with h | h
    · exact d.dis k h hg
    · have := RTab.lt_ d.rtab k hg; omega, fun k hf => by
    rcases hs k hf with h | h
    · exact d.fnew k h
    · exact Nat.le_trans d.bel.size h, Keep.below d.bel hk d.bel.size (fun i hi hf => by have := d.fnew i hf; omega)⟩
/-- The document's moves. -/
theorem DT.right {F' : Nat → Prop} {L' : List ByteArray} {w1 w2 : World} {G' : Nat → Prop} (hT1 : Tab w1 F' g L') (hdis : ∀ k, F' k → ¬ G k) (hfn : ∀ k, F' k → w.heap.size ≤ k) (hgn : ∀ k, G k → w.heap.size ≤ k) (hb : Below w.heap.size w w1) (hT : RTab w2 G' h L') (hs : ∀ k, G' k → G k ∨ w1.heap.size ≤ k) (hk : Keep G w1 w2) : DT w w2 g h F' G' L' :=
  ⟨hT1.keep hk (fun r hf hg => hdis r hf hg), hT, fun k hf hg => by
    rcases hs k hg with h | h
    · exact hdis k hf h
    · have := Tab.lt_ hT1 k hf; omega, hfn, fun k hg => by
    rcases hs k hg with h | h
    · exact hgn k h
    · exact Nat.le_trans hb.size h, Keep.below hb hk hb.size (fun i hi hg => by have := hgn i hg; omega)⟩
theorem DT.facts (d : DT w wr g h F G L) : L.Nodup ∧ (∀ s ∈ L, s.size ≤ 64) ∧ L.length ≤ 4096 := by
  obtain ⟨bm, v, D, _, _, _, _, _, _, _, _, hnd, hsz, hl4, _⟩ := d.tab
  exact ⟨hnd, hsz, hl4⟩
end
/-- True or false. -/
def SomeB (e : Ending) : Prop := ∃ b, e = .returned (.bool b)
/-- What Atoms answers. -/
def AtomsPost (w : World) (e : Ending) (w' : World) : Prop := ∃ g h F G L, e = .returned (.tuple #[.pointer (some ⟨g, 0, none⟩), .pointer (some ⟨h, 0, none⟩)]) ∧ DT w w' g h F G L
set_option maxRecDepth 100000 in
set_option maxHeartbeats 8000000 in
theorem atoms_any (A : Option Addr) (c : Nat) (xs : List ByteArray) (w : World) (hr : Reads w w.heap.size 1 A xs.length (xs.map Value.string)) (hx : ∀ s ∈ xs, s.size ≤ maxLen) (hl : xs.length ≤ c) (hc : c ≤ maxLen) :
    Calls Try.prog 21 #[.slice A xs.length c] w (AtomsPost w) := by
  have HN := Lib.hid (fun w => new_any w)
  have hlm : xs.length ≤ 9223372036854775807 := by unfold maxLen at hc; omega
  have HR := Lib.hid hr; have HX := Lib.hid hx
  clear hr hx hl hc
  go_enter Try.func21, Try.ntmps21
  go_wp2_with fail
  rename_i K1 hK1 K2 hK2
  have HKK := Lib.hid hK1
  clear hK1
  refine (HN.out _).mono ?_
  rintro e w1 ⟨g, rfl, hT1, hb1⟩
  have HT1 := Lib.hid hT1; have HB1 := Lib.hid hb1
  clear hT1 hb1
  go_wp2_with fail
  refine HKK.out _ _ ?_
  have hbx := Blk.new w1 84 #[.slice none 0 0]
  have hb2 := ballocs (Below.refl w1.heap.size w1) (.cells #[.slice none 0 0] 84)
  have hz2 : (w1.alloc (.cells #[.slice none 0 0] 84)).heap.size = w1.heap.size + 1 := by simp
  obtain ⟨w2, hw2⟩ : ∃ x, w1.alloc (.cells #[.slice none 0 0] 84) = x := ⟨_, rfl⟩
  rw [hw2] at hbx hb2 hz2 ⊢
  have hD : DT w w2 g w1.heap.size (fun k => w.heap.size ≤ k ∧ k < w1.heap.size) (fun k => k = w1.heap.size) [] := ⟨HT1.out.keep (G := fun _ => False) (Keep.new hb2) (fun _ _ h => h), ⟨_, fun k hk => by omega, rfl, (fun r hr => by cases hr), hbx, World.ownsRow_nil _ _ _ _, by simp, by simp, by simp [bytesOf]⟩, fun k hk h => by omega, fun k hk => hk.1, fun k hk => by have := HB1.out.size; omega, fbelow HB1.out hb2⟩
  obtain ⟨h, hh⟩ : ∃ h, w1.heap.size = h := ⟨_, rfl⟩
  rw [hh] at hD ⊢
  have HD := Lib.hid (show ∃ F G L, DT w w2 g h F G L from ⟨_, _, _, hD⟩)
  clear hw2 hbx hb2 hz2 hD hh HT1 HB1
  go_wp2_with fail
  go_loopw [6] (fun x wr => ∃ i : Nat, i ≤ xs.length ∧ x = .int .i64 (i : Int) ∧ ∃ F G L, DT w wr g h F G L) (fun x _ => xs.length - (intOf x).toNat)
  case atStart => exact ⟨0, Nat.zero_le _, rfl, HD.out⟩
  case round =>
    obtain ⟨i, hi, rfl, F, G, L, hd⟩ := hrel
    clear HD
    have HDR := Lib.hid hd
    by_cases hlt : i < xs.length
    · obtain ⟨s, hs⟩ : ∃ s, xs[i]? = some s := ⟨_, List.getElem?_eq_getElem hlt⟩
      have hRr := HR.out.below hd.bel
      obtain ⟨ad, u, rfl, hab, hu, hcell⟩ := hRr.at_ (k := i) hlt
      obtain rfl : u = .string s := by rw [List.getElem?_map, hs] at hu; injection hu with hu; exact hu.symm
      have hsz := HX.out s (List.mem_of_getElem? hs)
      have HI := Lib.hid (intern_any g L s wr F hd.tab hsz)
      have hi0 : (0 : Int) ≤ (i : Int) := by omega
      have hil : (i : Int) < (xs.length : Int) := by omega
      have HSZ := Lib.hid hsz
      have hadl : ad.block < wr.heap.size := Nat.lt_of_lt_of_le hab hd.bel.size
      have HAB := Lib.hid hab
      obtain ⟨y, hy⟩ : ∃ y, inE L s = y := ⟨_, rfl⟩
      have hyy : (y != y) = false := by simp
      clear hd hRr hu hs hsz hab
      go_wp2_with fail
      refine HI.out.mono ?_
      rintro e w3 ⟨rfl, F', hT', hs', hk'⟩
      obtain ⟨hA, hB, hC, hDD, hE⟩ := DT.left HDR.out hT' hs' hk'
      have hcell3 : w3.cell? (ad.add i) = some (.string s) := (hk'.cell (p := ad.add i) (by rw [block_of_add]; exact hadl) (by rw [block_of_add]; exact fun hf => by have := HDR.out.fnew _ hf; have := HAB.out; omega)).trans hcell
      have HRI := Lib.hid (rintern_any h L s w3 G hB HSZ.out)
      have HL := Lib.hid (fun w2 (m : RMoved w3 G h (inL L s) w2) => (show ∃ F G L, DT w w2 g h F G L from by
        obtain ⟨G', hRT, hs2, hk2⟩ := m
        exact ⟨F', G', _, DT.right hA hC hDD HDR.out.gnew hE hRT hs2 hk2⟩))
      rw [hy] at HRI ⊢
      clear hA hB hC hDD hE hT' hs' hk' hcell hy
      go_wp2_with fail
      refine HRI.out.mono ?_
      rintro e w4 ⟨rfl, hm⟩
      have HL4 := Lib.hid (HL.out _ hm)
      clear hm hcell3
      go_wp2_with fail
      exact ⟨⟨i + 1, by omega, by go_num, HL4.out⟩, by simp [intOf]; omega⟩
    · obtain rfl : i = xs.length := by omega
      clear hd
      go_wp2_with fail
      go_ret2
      exact ⟨g, h, F, G, L, rfl, HDR.out⟩
set_option maxRecDepth 100000 in
set_option maxHeartbeats 8000000 in
theorem longTexts_any (A : Option Addr) (c : Nat) (xs : List ByteArray) (m : Int) (w : World) (hr : Reads w w.heap.size 1 A xs.length (xs.map Value.string)) (hx : ∀ s ∈ xs, s.size ≤ maxLen) (hl : xs.length ≤ c) (hc : c ≤ maxLen) :
    Calls Try.prog 20 #[.slice A xs.length c, .int .i64 m] w fun e w' => SomeB e ∧ w' = w := by
  have hlm : xs.length ≤ 9223372036854775807 := by unfold maxLen at hc; omega
  have HR := Lib.hid hr; have HX := Lib.hid hx
  clear hr hx hl hc
  go_enter Try.func20, Try.ntmps20
  go_wp2_with fail
  go_loop [5] (fun x => ∃ i : Nat, i ≤ xs.length ∧ x = .int .i64 (i : Int)) (fun x => xs.length - (intOf x).toNat)
  case atStart => exact ⟨0, Nat.zero_le _, rfl⟩
  case round =>
    obtain ⟨i, hi, rfl⟩ := hrel
    by_cases hlt : i < xs.length
    · obtain ⟨s, hs⟩ : ∃ s, xs[i]? = some s := ⟨_, List.getElem?_eq_getElem hlt⟩
      obtain ⟨ad, u, rfl, hab, hu, hcell⟩ := HR.out.at_ (k := i) hlt
      obtain rfl : u = .string s := by rw [List.getElem?_map, hs] at hu; injection hu with hu; exact hu.symm
      have hsz := HX.out s (List.mem_of_getElem? hs)
      have hsz2 : s.size ≤ 9223372036854775807 := by unfold maxLen at hsz; omega
      have hi0 : (0 : Int) ≤ (i : Int) := by omega
      have hil : (i : Int) < (xs.length : Int) := by omega
      clear hu hs hsz
      by_cases h100 : 100 < s.size
      · have b1 : decide ((100 : Int) < (s.size : Int)) = true := decide_eq_true (by omega)
        go_wp2_with fail
        go_ret
        exact ⟨⟨_, rfl⟩, rfl⟩
      · have b1 : decide ((100 : Int) < (s.size : Int)) = false := decide_eq_false (by omega)
        go_wp2_with fail
        go_round
        case rel => exact ⟨i + 1, by omega, by go_num⟩
        case measure => simp [intOf]; omega
    · obtain rfl : i = xs.length := by omega
      go_wp2_with fail
      go_ret
      exact ⟨⟨_, rfl⟩, rfl⟩
set_option maxRecDepth 100000 in
set_option maxHeartbeats 8000000 in
theorem sameAtoms_any {w w0 : World} {g h : Nat} {F G : Nat → Prop} {L : List ByteArray} (d : DT w0 w g h F G L) :
    Calls Try.prog 24 #[.pointer (some ⟨g, 0, none⟩), .pointer (some ⟨h, 0, none⟩)] w fun e w' => e = .returned (.bool true) ∧ Below w.heap.size w w' := by
  have HA := Lib.hid (all_any g L w F d.tab)
  have hl4 := d.facts.2.2
  obtain ⟨v, fl, fg, fv, hB, hR, _, _, _⟩ := d.rtab
  obtain ⟨A0, cap, rfl, hc1, hc2⟩ := ownsRow_form hR
  have HB := Lib.hid hB; have HR := Lib.hid (Reads.of_own hR)
  clear fl fg fv hB hR d
  obtain ⟨n, hn⟩ : ∃ n, L.length = n := ⟨_, rfl⟩
  have HN := Lib.hid hn
  rw [hn] at HA HB HR hl4 hc1
  clear hn
  go_enter Try.func24, Try.ntmps24
  go_wp2_with fail
  refine HA.out.mono ?_
  rintro e w1 ⟨v1, rfl, hR1, hb1⟩
  obtain ⟨A1, c1, rfl, hc3, hc4⟩ := ownsRow_form hR1
  have HR1 := Lib.hid (Reads.of_own hR1); have HB1 := Lib.hid hb1
  have HR0 := Lib.hid (HR.out.below hb1)
  have x0 : w1.cell? ⟨h, 0, none⟩ = some (.slice A0 n cap) := (hb1.cell (p := ⟨h, 0, none⟩) HB.out.lt).trans (by rw [HB.out.cell]; rfl)
  clear hR1 hb1
  go_wp2_with fail
  go_loopw [6] (fun x wr => ∃ i q : Nat, i ≤ n ∧ x = .int .i64 (i : Int) ∧ wr = w1.drewN q) (fun x _ => n - (intOf x).toNat)
  case atStart => exact ⟨0, 0, Nat.zero_le _, rfl, rfl⟩
  case round =>
    obtain ⟨i, q, hi, rfl, rfl⟩ := hrel
    have hi0 : (0 : Int) ≤ (i : Int) := by omega
    by_cases hlt : i < n
    · obtain ⟨s, hs⟩ : ∃ s, L[i]? = some s := ⟨_, List.getElem?_eq_getElem (by have := HN.out; omega)⟩
      obtain ⟨ad, u, rfl, _, hu, hcell⟩ := HR1.out.at_ (k := i) hlt
      obtain rfl : u = .string s := by rw [List.getElem?_map, hs] at hu; injection hu with hu; exact hu.symm
      obtain ⟨ad0, u0, rfl, _, hu0, hcell0⟩ := HR0.out.at_ (k := i) hlt
      obtain rfl : u0 = .string s := by rw [List.getElem?_map, hs] at hu0; injection hu0 with hu0; exact hu0.symm
      have hil : (i : Int) < (n : Int) := by omega
      have hss : (s.toList != s.toList) = false := by simp
      have k0 : (w1.drewN q).cell? ⟨h, 0, none⟩ = some (.slice (some ad0) n cap) := x0
      have k1 : (w1.drewN q).cell? (ad.add i) = some (.string s) := hcell
      have k2 : (w1.drewN q).cell? (ad0.add i) = some (.string s) := hcell0
      obtain ⟨wq, hwq⟩ : ∃ x, w1.drewN q = x := ⟨_, rfl⟩
      have HWQ := Lib.hid hwq
      rw [hwq] at k0 k1 k2 ⊢
      clear hu hu0 hs hcell hcell0 x0 hwq
      go_wp2_with fail
      go_quiet (fail)
      go_wp2_with fail
      refine ⟨⟨i + 1, q + nq, by omega, by go_num, ?_⟩, by simp [intOf]; omega⟩
      rw [← HWQ.out, World.drewN_drewN]
    · obtain rfl : i = n := by omega
      clear x0
      go_wp2_with fail
      go_ret
      exact ⟨ret1_b rfl, fdrewN HB1.out q⟩
end Go.Proofs.Ytfcialleekfjmaa.Fl
