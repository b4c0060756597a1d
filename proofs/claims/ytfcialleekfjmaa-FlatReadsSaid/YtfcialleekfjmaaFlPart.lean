/- Part, by a contract. What a walk over a table of atoms keeps: the table, and rows of words that lie beside it. -/
import Derived.Test.YtfcialleekfjmaaFlTerm4
namespace Go.Proofs.Ytfcialleekfjmaa.Fl
open Go.RowKit K At Wd
set_option linter.unusedVariables false
set_option linter.unusedSimpArgs false
theorem nodes_wds : ∀ t : Tm, sndL (subs t) = true → (nodes t : Int) ≤ wds t := by
  refine Tm.ind fun t ih h => ?_
  rw [sndL_subs, Bool.and_eq_true] at h
  have h2 := ownN_range t
  rw [wds_eq, nodes_eq]
  cases hb : hasB t with
  | true =>
    rw [if_pos rfl]
    have hl : ∀ l : List Tm, (∀ u ∈ l, sndL (subs u) = true → (nodes u : Int) ≤ wds u) → sndL (subsL l) = true → (nodesL l : Int) ≤ wdsL l := fun l h hs => by
      induction l with
      | nil => rw [wdsL_nil, nodesL_nil]; simp
      | cons a r ihr =>
        rw [subsL_cons, sndL_append, Bool.and_eq_true] at hs
        rw [wdsL_cons, nodesL_cons]
        have h1 := h a (List.mem_cons_self ..) hs.1
        have h2 := ihr (fun u hu => h u (List.mem_cons_of_mem _ hu)) hs.2
        omega
    have := hl t.l ih h.2
    omega
  | false => rw [if_neg (by simp), K.sound_leaf h.1 hb, nodesL_nil]; omega
theorem chk_snd {t : Tm} (h : chk t = 0) : sndL (subs t) = true ∧ wds t ≤ 65536 := by
  rw [chk_eq] at h
  split at h
  · rename_i h1
    split at h
    · cases h
    · exact ⟨h1, by omega⟩
  · cases h
theorem chk_nodes {t : Tm} (h : chk t = 0) : nodes t ≤ 65536 := by
  have h1 := chk_snd h
  have := nodes_wds t h1.1
  omega
/-- The element. -/
def partO (Ts : List ByteArray) (l : List Int) (n : Int) : Option Tm := match rdF Ts l with
  | none => none
  | some t => if t.k = 7 ∧ 1 ≤ n then t.l[(n - 1).toNat]? else none
def partE (Ts : List ByteArray) (l : List Int) (n : Int) : Int := if rdE Ts l = 0 then (match partO Ts l n with
  | none => 2
  | some u => flE Ts u) else rdE Ts l
def partW (Ts : List ByteArray) (l : List Int) (n : Int) : List Int := if rdE Ts l = 0 then (match partO Ts l n with
  | none => []
  | some u => flW Ts u) else []
/-- What Part leaves. -/
def PartPost (w : World) (F : Nat → Prop) (g : Nat) (Ts : List ByteArray) (l : List Int) (n : Int) (e : Ending) (w' : World) : Prop :=
  ∃ F' sv, e = .returned (.tuple #[sv, .int .i64 (partE Ts l n)]) ∧ Tab w' F' g Ts ∧ (∀ k, F' k → F k ∨ w.heap.size ≤ k) ∧ Keep F w w' ∧ w'.ownsRow w.heap.size 49 1 sv (partW Ts l n).length (u64s (partW Ts l n)) ∧ ∀ r, sv.ownBlock = some r → ¬ F' r
theorem part_none {w w' : World} {F : Nat → Prop} {g : Nat} {Ts : List ByteArray} {l : List Int} {n x : Int} (hT : Tab w F g Ts) (hb : Below w.heap.size w w') (he : partE Ts l n = x) (hw : partW Ts l n = []) :
    PartPost w F g Ts l n (.returned (.tuple #[.slice none 0 0, .int .i64 x])) w' :=
  ⟨F, .slice none 0 0, by rw [he], hT.keep (G := fun _ => False) (Keep.new hb) (fun _ _ h => h), fun k h => .inl h, Keep.new hb, by rw [hw]; exact World.ownsRow_nil _ _ _ _, fun r h => by cases h⟩
theorem part_some {w w1 w' : World} {F : Nat → Prop} {g : Nat} {Ts : List ByteArray} {l : List Int} {n : Int} {u : Tm} {e : Ending} (hb : Below w.heap.size w w1) (h0 : rdE Ts l = 0) (ho : partO Ts l n = some u) (hat : ∀ s ∈ atoms u, s ∈ Ts) (hA64 : ∀ s ∈ Ts, s.size ≤ 64) (h : FlatPost w1 F g Ts u e w') :
    PartPost w F g Ts l n e w' := by
  obtain ⟨F', sv, rfl, h1, h2, h3, h4, h5⟩ := h
  have hE : partE Ts l n = flE Ts u := by unfold partE; rw [if_pos h0, ho]
  have hW : partW Ts l n = flW Ts u := by unfold partW; rw [if_pos h0, ho]
  have hL : flL Ts u = Ts := by
    unfold flL
    rw [nums_there u Ts hat hA64]
    split <;> rfl
  rw [hL] at h1
  refine ⟨F', sv, by rw [hE], h1, fun k hk => (h2 k hk).imp id (fun h => Nat.le_trans hb.size h), (Keep.new (F := F) hb).trans h3 (fun _ _ h => h), ?_, h5⟩
  rw [hW]
  exact ownsRow_base h4 (fun r hr => Nat.le_trans hb.size (h4.lt r hr).1)
theorem atoms_part {t u : Tm} (hk : t.k = 7) (hu : u ∈ t.l) {s : ByteArray} (hs : s ∈ atoms u) : s ∈ atoms t := by
  obtain ⟨k, n, b, l⟩ := t
  simp only [Tm.k_mk, Tm.l_mk] at hk hu
  rw [atoms_mk, if_neg (by omega)]
  exact atomsL_mem hu hs
set_option maxRecDepth 100000 in
set_option maxHeartbeats 8000000 in
theorem part_any (g : Nat) (A : Option Addr) (l : List Int) (c : Nat) (F : Nat → Prop) (Ts : List ByteArray) (hU : ∀ x ∈ l, U64 x) (hlc : l.length ≤ c) (hA : A = none → c = 0) (hA64 : ∀ s ∈ Ts, s.size ≤ 64) (n : Int) (hn : (Lit.int .i64 n).wf = true) (w : World) (hT : Tab w F g Ts) (hl : Reads w w.heap.size 1 A l.length (u64s l)) :
    Calls Try.prog 11 #[.pointer (some ⟨g, 0, none⟩), .slice A l.length c, .int .i64 n] w (PartPost w F g Ts l n) := by
  have HRD := Lib.hid (read_any g A l c F Ts hU hlc hA hA64 w hT hl)
  have HT := Lib.hid hT
  have HNW := Lib.hid hn
  have HCK := Lib.hid (fun t (h6 : l.length ≤ 65536) (h : rdF Ts l = some t) => rdF_chk hA64 hU h6 h)
  have HA64 := Lib.hid hA64
  clear hT hl hU hlc hA hA64
  go_enter Try.func11, Try.ntmps11
  go_wp2_with fail
  rename_i K1 hK1 K2 hK2
  refine HRD.out.mono ?_
  rintro e w1 ⟨hb1, (⟨t, v, hF, h6, hE, rfl, ht⟩ | ⟨hE, rfl⟩)⟩
  · obtain ⟨A1, c1, rfl, ok, hts⟩ := ht.inv
    obtain ⟨hchk, hats, _⟩ := HCK.out t h6 hF
    have hnd := chk_nodes hchk
    have HKK := Lib.hid hK1
    have HB1 := Lib.hid hb1
    have HTS := Lib.hid hts
    have HND := Lib.hid hnd
    unfold tv
    clear hK1 hb1 ok hts ht hchk hnd
    go_wp2_with fail
    refine HKK.out _ _ ?_
    have ht4 := Blk.new w1 24 #[.int .i64 t.k, .int .i64 t.n, .string t.s, .slice A1 t.l.length c1]
    have hb2 := ballocs (Below.refl w1.heap.size w1) (.cells #[.int .i64 t.k, .int .i64 t.n, .string t.s, .slice A1 t.l.length c1] 24)
    obtain ⟨w2, hw2⟩ : ∃ x, w1.alloc (.cells #[.int .i64 t.k, .int .i64 t.n, .string t.s, .slice A1 t.l.length c1] 24) = x := ⟨_, rfl⟩
    rw [hw2] at ht4 hb2 ⊢
    obtain ⟨t0, t1, t2, t3, _, _, _, _⟩ := ht4.four
    obtain ⟨g8, hg8⟩ : ∃ g8, w1.heap.size = g8 := ⟨_, rfl⟩
    rw [hg8] at t0 t1 t2 t3 ht4 ⊢
    have HB2 := Lib.hid hb2; have HB02 := Lib.hid (fbelow HB1.out hb2)
    have HG8 := Lib.hid hg8
    have HF := Lib.hid hF; have HE := Lib.hid hE
    clear hw2 hb2 ht4 hg8 hE
    by_cases hk7 : t.k = 7
    · by_cases hn1 : 1 ≤ n
      · by_cases hnl : n ≤ t.l.length
        · obtain ⟨j, hj⟩ : ∃ j : Nat, n = (j : Int) + 1 := ⟨(n - 1).toNat, by omega⟩
          obtain ⟨u, hu⟩ : ∃ u, t.l[j]? = some u := ⟨_, List.getElem?_eq_getElem (by omega)⟩
          have hum := List.mem_of_getElem? hu
          obtain ⟨bb, o, A2, c2, rfl, hb1, d0, d1, d2, d3, ok1, hta⟩ := (HTS.out.keep (w' := w2) (fun q hq => HB2.out.cell (by have := hq.2; omega))).at_ hu
          have HPO := Lib.hid (show partO Ts l n = some u from by
            unfold partO
            rw [HF.out]
            simp only
            rw [if_pos ⟨hk7, by omega⟩, show (n - 1).toNat = j from by omega]
            exact hu)
          have HAT := Lib.hid (show ∀ s ∈ atoms u, s ∈ Ts from fun s hs => hats s (atoms_part hk7 hum hs))
          have hnu : nodes u ≤ 1048576 := by
            have h1 := nodes_eq t
            have h2 := nodesL_mem hum
            have := HND.out
            omega
          have HFL := Lib.hid (flatten_any g Ts u _ w2 F (Fr w w1) (HT.out.keep (G := fun _ => False) (Keep.new HB02.out) (fun _ _ h => h)) (TAt.of ok1 hta) (fun b hb => ⟨Nat.lt_of_lt_of_le hb.2 HB2.out.size, fun h => by have h1 := Tab.lt_ HT.out b h; have h2 := hb.1; omega⟩) hnu)
          unfold tv at HFL
          have b7 : (t.k != 7) = false := by simp [hk7]
          have bn : decide (n < 1) = false := decide_eq_false (by omega)
          have bl : decide ((t.l.length : Int) < n) = false := decide_eq_false (by omega)
          have e1 : n - 1 = (j : Int) := by omega
          have ej : (j : Int) < (t.l.length : Int) := by omega
          have hj0 : (0 : Int) ≤ (j : Int) := by omega
          have hj6 : (j : Int) < 1048577 := by have h1 := nodes_eq t; have h2 := nodesL_len t.l; have := HND.out; omega
          have HH := Lib.hid hk7
          clear hk7 hn hF hats hum hnu hta ok1 hu hn1 hnl hj
          go_wp2_with fail
          refine HFL.out.mono ?_
          intro e w3 hp
          have HP := Lib.hid (part_some HB02.out HE.out HPO.out HAT.out HA64.out hp)
          obtain ⟨F', sv, rfl, _⟩ := hp
          go_wp2_with fail
          go_ret2
          exact HP.out
        · have HPO := Lib.hid (show partO Ts l n = none from by
            unfold partO
            rw [HF.out]
            simp only
            rw [if_pos ⟨hk7, hn1⟩]
            exact List.getElem?_eq_none (by omega))
          have b7 : (t.k != 7) = false := by simp [hk7]
          have bn : decide (n < 1) = false := decide_eq_false (by omega)
          have bl : decide ((t.l.length : Int) < n) = true := decide_eq_true (by omega)
          clear hk7 hn hF hats hn1 hnl
          go_wp2_with fail
          go_ret2
          exact part_none HT.out HB02.out (by unfold partE; rw [if_pos HE.out, HPO.out]) (by unfold partW; rw [if_pos HE.out, HPO.out])
      · have HPO := Lib.hid (show partO Ts l n = none from by
          unfold partO
          rw [HF.out]
          simp only
          rw [if_neg (fun h => hn1 h.2)])
        have b7 : (t.k != 7) = false := by simp [hk7]
        have bn : decide (n < 1) = true := decide_eq_true (by omega)
        clear hk7 hn hF hats hn1
        go_wp2_with fail
        go_ret2
        exact part_none HT.out HB02.out (by unfold partE; rw [if_pos HE.out, HPO.out]) (by unfold partW; rw [if_pos HE.out, HPO.out])
    · have HPO := Lib.hid (show partO Ts l n = none from by
        unfold partO
        rw [HF.out]
        simp only
        rw [if_neg (fun h => hk7 h.1)])
      have b7 : (t.k != 7) = true := by simpa using hk7
      clear hk7 hn hF hats
      go_wp2_with fail
      go_ret2
      exact part_none HT.out HB02.out (by unfold partE; rw [if_pos HE.out, HPO.out]) (by unfold partW; rw [if_pos HE.out, HPO.out])
  · have HB1 := Lib.hid (fun o => ballocs hb1 o)
    have HW := Lib.hid (show partW Ts l n = [] from by unfold partW; rw [if_neg (by omega)])
    have HE := Lib.hid (show partE Ts l n = rdE Ts l from by unfold partE; rw [if_neg (by omega)])
    clear hb1
    rcases hE with hE | hE
    · rw [hE] at HE ⊢
      clear hE
      go_wp2_with fail
      go_ret2
      exact part_none HT.out (HB1.out _) HE.out HW.out
    · rw [hE] at HE ⊢
      clear hE
      go_wp2_with fail
      go_ret2
      exact part_none HT.out (HB1.out _) HE.out HW.out
/-- A row that lies outside of F. -/
def RO (w : World) (F : Nat → Prop) (A : Option Addr) (n : Nat) (xs : List Value) : Prop :=
  xs.length = n ∧ (0 < n → ∃ ad, A = some ad ∧ ad.block < w.heap.size ∧ ¬ F ad.block ∧ ∀ j u, xs[j]? = some u → w.cell? (ad.add j) = some u)
section
variable {w w' : World} {F F' : Nat → Prop} {A : Option Addr} {n : Nat} {xs : List Value}
theorem RO.reads (h : RO w F A n xs) : Reads w w.heap.size 1 A n xs := ⟨by rw [h.1]; omega, fun hn => by
  obtain ⟨ad, h1, h2, _, h3⟩ := h.2 hn
  exact ⟨ad, h1, h2, h3⟩⟩
theorem RO.step (h : RO w F A n xs) (hk : Keep F w w') (hF : ∀ k, F' k → F k ∨ w.heap.size ≤ k) : RO w' F' A n xs := ⟨h.1, fun hn => by
  obtain ⟨ad, h1, h2, h3, h4⟩ := h.2 hn
  refine ⟨ad, h1, Nat.lt_of_lt_of_le h2 hk.size, fun hf => ?_, fun j u hj => (hk.cell (p := ad.add j) (by rw [block_of_add]; exact h2) (by rw [block_of_add]; exact h3)).trans (h4 j u hj)⟩
  rcases hF _ hf with h | h
  · exact h3 h
  · omega⟩
theorem RO.below (h : RO w F A n xs) (hb : Below w.heap.size w w') : RO w' F A n xs := h.step (Keep.new hb) (fun k hk => .inl hk)
theorem RO.of_own {base : Nat} {e : TypeId} {c : Nat} (h : w.ownsRow base e 1 (.slice A n c) n xs) (hF : ∀ r, (Value.slice A n c).ownBlock = some r → ¬ F r) : RO w F A n xs := by
  have hr := Reads.of_own h
  refine ⟨by have := hr.1; omega, fun hn => ?_⟩
  obtain ⟨ad, rfl, h1, h2⟩ := hr.2 hn
  obtain ⟨g, cap, hv, _, _⟩ := h.form hn
  injection hv with hv
  injection hv with hv
  exact ⟨ad, rfl, h1, hF _ rfl, h2⟩
theorem RO.blk {b : Nat} {t : TypeId} {cs : Array Value} (h : Blk w b t cs) (hb : ¬ F b) : RO w F (some ⟨b, 0, none⟩) cs.size cs.toList := by
  refine ⟨by simp, fun _ => ⟨_, rfl, h.lt, hb, fun j u hj => ?_⟩⟩
  rw [show (⟨b, 0, none⟩ : Addr).add j = ⟨b, j, none⟩ from by simp [Addr.add]; exact fun h => h.symm, h.cell]
  rw [← Array.getElem?_toList]; exact hj
theorem RO.cell {b : Nat} (h : RO w F (some ⟨b, 0, none⟩) n xs) {j : Nat} {u : Value} (hj : xs[j]? = some u) : w.cell? ⟨b, j, none⟩ = some u := by
  have hn : 0 < n := by have := (List.getElem?_eq_some_iff.1 hj).1; have := h.1; omega
  obtain ⟨ad, h1, _, _, h4⟩ := h.2 hn
  injection h1 with h1
  subst h1
  have := h4 j u hj
  rwa [show (⟨b, 0, none⟩ : Addr).add j = ⟨b, j, none⟩ from by simp [Addr.add]; exact fun h => h.symm] at this
theorem RO.sub (h : RO w F A n xs) {m : Nat} (hm : m ≤ n) : RO w F A m (xs.take m) := ⟨by rw [List.length_take, h.1]; omega, fun h0 => by
  obtain ⟨ad, h1, h2, h3, h4⟩ := h.2 (by omega)
  refine ⟨ad, h1, h2, h3, fun j u hj => h4 j u ?_⟩
  rw [List.getElem?_take] at hj
  split at hj
  · exact hj
  · cases hj⟩
end
/-- The walk's state. -/
structure KE (w wr : World) (g : Nat) (F : Nat → Prop) (L : List ByteArray) : Prop where
  tab : Tab wr F g L
  bel : Below w.heap.size w wr
  new : ∀ b, F b → w.heap.size ≤ b
section
variable {w wr w' : World} {g : Nat} {F : Nat → Prop} {L : List ByteArray}
theorem KE.below (h : KE w wr g F L) (hb : Below wr.heap.size wr w') : KE w w' g F L := ⟨h.tab.keep (G := fun _ => False) (Keep.new hb) (fun _ _ h => h), fbelow h.bel hb, h.new⟩
theorem KE.step {F' : Nat → Prop} {L' : List ByteArray} (h : KE w wr g F L) (hk : Keep F wr w') (hT : Tab w' F' g L') (hF : ∀ k, F' k → F k ∨ wr.heap.size ≤ k) : KE w w' g F' L' :=
  ⟨hT, Keep.below h.bel hk h.bel.size (fun i hi hf => by have := h.new i hf; omega), fun b hb => by
    rcases hF b hb with h1 | h1
    · exact h.new b h1
    · exact Nat.le_trans h.bel.size h1⟩
theorem FlatPost.open_ {t : Tm} {e : Ending} (h : KE w wr g F L) (hp : FlatPost wr F g L t e w') :
    ∃ F' A c, e = .returned (.tuple #[.slice A (flW L t).length c, .int .i64 (flE L t)]) ∧ KE w w' g F' (flL L t) ∧ Keep F wr w' ∧ (∀ k, F' k → F k ∨ wr.heap.size ≤ k) ∧ RO w' F' A (flW L t).length (u64s (flW L t)) ∧ (flW L t).length ≤ c ∧ (A = none → c = 0) ∧ w'.ownsRow wr.heap.size 49 1 (.slice A (flW L t).length c) (flW L t).length (u64s (flW L t)) := by
  obtain ⟨F', sv, rfl, h1, h2, h3, h4, h5⟩ := hp
  have hz : sv = .slice none 0 0 ∨ ∃ r c, sv = .slice (some ⟨r, 0, none⟩) (flW L t).length c := by
    rcases h4.2 with ⟨h, _⟩ | ⟨r, c, _, h, _⟩
    · exact .inl h
    · exact .inr ⟨r, c, h⟩
  obtain ⟨A, c, rfl, hl, _⟩ := ownsRow_form h4
  refine ⟨F', A, c, rfl, h.step h3 h1 h2, h3, h2, RO.of_own h4 h5, hl, fun hA => ?_, h4⟩
  rcases hz with h | ⟨r, c', h⟩
  · injection h
  · injection h with h; rw [hA] at h; cases h
theorem PartPost.open_ {l : List Int} {n : Int} {e : Ending} (h : KE w wr g F L) (hp : PartPost wr F g L l n e w') :
    ∃ F' A c, e = .returned (.tuple #[.slice A (partW L l n).length c, .int .i64 (partE L l n)]) ∧ KE w w' g F' L ∧ Keep F wr w' ∧ (∀ k, F' k → F k ∨ wr.heap.size ≤ k) ∧ RO w' F' A (partW L l n).length (u64s (partW L l n)) ∧ (partW L l n).length ≤ c ∧ (A = none → c = 0) ∧ w'.ownsRow wr.heap.size 49 1 (.slice A (partW L l n).length c) (partW L l n).length (u64s (partW L l n)) := by
  obtain ⟨F', sv, rfl, h1, h2, h3, h4, h5⟩ := hp
  have hz : sv = .slice none 0 0 ∨ ∃ r c, sv = .slice (some ⟨r, 0, none⟩) (partW L l n).length c := by
    rcases h4.2 with ⟨h, _⟩ | ⟨r, c, _, h, _⟩
    · exact .inl h
    · exact .inr ⟨r, c, h⟩
  obtain ⟨A, c, rfl, hl, _⟩ := ownsRow_form h4
  refine ⟨F', A, c, rfl, h.step h3 h1 h2, h3, h2, RO.of_own h4 h5, hl, fun hA => ?_, h4⟩
  rcases hz with h | ⟨r, c', h⟩
  · injection h
  · injection h with h; rw [hA] at h; cases h
end
end Go.Proofs.Ytfcialleekfjmaa.Fl
