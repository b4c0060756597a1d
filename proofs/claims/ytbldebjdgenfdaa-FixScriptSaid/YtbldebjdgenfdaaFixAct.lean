/- tenurelaw12.act: a call of both counts, by its contract. -/
import Derived.Test.YtbldebjdgenfdaaRefFixH
import Derived.Deep.RegionHeld3
namespace Go.Proofs.Ytbldebjdgenfdaa.Fx
open Go.RowKit K
set_option linter.unusedVariables false
set_option linter.unusedSimpArgs false

theorem Keep.undrew {F : Nat → Prop} {w w' : World} (h : Keep F w.drew w') : Keep F w w' := ⟨h.os, h.tape, h.output, h.size, h.block⟩
theorem RC.keep {w w' : World} {F G : Nat → Prop} {h : Nat} {L : List Int} (hT : RC w G h L) (hk : Keep F w w') (hd : ∀ r, G r → ¬ F r) : RC w' G h L := by
  obtain ⟨v, fl, fg, fv, hB, hR⟩ := hT
  exact ⟨v, fun k hk2 => Nat.lt_of_lt_of_le (fl k hk2) hk.size, fg, fv, hB.keep hk (hd h fg), ownsRow_keep hR hk (fun r hr => hd r (fv r hr))⟩
theorem RC.lt {w : World} {G : Nat → Prop} {h : Nat} {L : List Int} (hT : RC w G h L) : ∀ k, G k → k < w.heap.size := by
  obtain ⟨v, fl, _⟩ := hT; exact fl
/-- Both counts, apart from each other, in memory of our own. -/
def DS (B0 : Nat) (w0 : World) (g n h : Nat) (L : List Int) (W : World) : Prop :=
  Below B0 w0 W ∧ B0 ≤ W.heap.size ∧ ∃ F G, CT W F g n L ∧ RC W G h L ∧ (∀ k, F k → B0 ≤ k) ∧ (∀ k, G k → B0 ≤ k) ∧ (∀ k, F k → ¬ G k)
def Fine (L : List Int) : Prop := ∀ x ∈ L, 0 ≤ x ∧ x ≤ 1073741824
theorem fine_ad {L : List Int} (h : Fine L) (p : Int) : Fine (adL L p) := by
  intro x hx
  unfold adL at hx
  split at hx
  · exact h x hx
  · rcases List.mem_append.1 hx with h1 | h1
    · exact h x h1
    · simp at h1; subst h1; omega
theorem fine_less {L : List Int} (h : Fine L) (p : Int) (m : Nat) : Fine (less L p m) := by
  intro x hx
  refine h x ?_
  have h1 := cnt_pos.2 hx
  rw [cnt_less] at h1
  apply cnt_pos.1
  by_cases e : x = p
  · rw [if_pos e] at h1; subst e; omega
  · rw [if_neg e] at h1; exact h1
theorem less_len (L : List Int) (p : Int) (m : Nat) : (less L p m).length ≤ L.length := by
  induction L generalizing m with
  | nil => cases m <;> simp [less]
  | cons a r ih =>
    simp only [less]
    split
    · have := ih (m - 1); simp; omega
    · have := ih m; simp; omega
theorem ad_len (L : List Int) (p : Int) : (adL L p).length ≤ L.length + 1 := by
  unfold adL; split <;> simp
section
variable {B0 : Nat} {w0 W W1 W2 : World} {g n n' h : Nat} {L L' : List Int} {F G : Nat → Prop}
theorem DS.mid (hb : Below B0 w0 W) (hz : B0 ≤ W.heap.size) (hG : ∀ k, F k → B0 ≤ k) (h1 : Keep F W W1) : Below B0 w0 W1 ∧ B0 ≤ W1.heap.size :=
  ⟨h1.below hb hz (fun i hi hf => by have := hG i hf; omega), Nat.le_trans hz h1.size⟩
theorem DS.both (hb : Below B0 w0 W) (hz : B0 ≤ W.heap.size) (hC : CT W F g n L) (hR : RC W G h L) (hF : ∀ k, F k → B0 ≤ k) (hG : ∀ k, G k → B0 ≤ k) (hd : ∀ k, F k → ¬ G k)
    (h1 : Moved W F g n' L' W1) (h2 : RMoved W1 G h L' W2) : DS B0 w0 g n' h L' W2 := by
  obtain ⟨m1, m2⟩ := DS.mid hb hz hF h1.2
  obtain ⟨G', r1, r2, r3⟩ := h2
  obtain ⟨k1, k2⟩ := DS.mid m1 m2 hG r3
  have hs := h1.2.size
  refine ⟨k1, k2, F, G', h1.1.keep r3 hd, r1, hF, fun k hk => ?_, fun k hk hk' => ?_⟩
  · rcases r2 k hk with h | h
    · exact hG k h
    · omega
  · rcases r2 k hk' with h | h
    · exact hd k hk h
    · have := hC.lt k hk; omega
theorem DS.more (hD : DS B0 w0 g n h L W) : DS B0 w0 g (n + 1) h L W := by
  obtain ⟨b1, b2, F, G, hC, r⟩ := hD
  exact ⟨b1, b2, F, G, hC.more (Nat.le_succ n), r⟩
theorem DS.later (hD : DS B0 w0 g n h L W) (hb : Below W.heap.size W W1) : DS B0 w0 g n h L W1 := by
  obtain ⟨b1, b2, F, G, hC, hR, hF, hG, hd⟩ := hD
  exact ⟨b1.trans (hb.mono b2), Nat.le_trans b2 hb.size, F, G, hC.keep (Keep.new hb (F := fun k => W.heap.size ≤ k)) (fun r hr hs => by have := hC.lt r hr; omega),
    hR.keep (Keep.new hb (F := fun k => W.heap.size ≤ k)) (fun r hr hs => by have := hR.lt r hr; omega), hF, hG, hd⟩
end
set_option maxRecDepth 100000 in
set_option maxHeartbeats 8000000 in
theorem act_any (B0 : Nat) (w0 : World) (g n h0 : Nat) (L : List Int) (kd pd : Int) (W : World) (hD : DS B0 w0 g n h0 L W) (hL : L.length ≤ 60) (hn : n ≤ 60) (hf : Fine L) (hk : (Lit.int .i64 kd).wf = true) (hp : (Lit.int .i64 pd).wf = true) :
    Calls Try.prog 8 #[.pointer (some ⟨g, 0, none⟩), .pointer (some ⟨h0, 0, none⟩), .agg #[.int .i64 kd, .int .i64 pd]] W fun e w' =>
      e = .returned (.bool true) ∧ ∃ L', DS B0 w0 g (n + 1) h0 L' w' ∧ L'.length ≤ L.length + 1 ∧ Fine L' := by
  obtain ⟨W1, hW1⟩ : ∃ W1, W.alloc (.cells #[.int .i64 kd, .int .i64 pd] 31) = W1 := ⟨_, rfl⟩
  have hbb : Below W.heap.size W W1 := by rw [← hW1]; exact (Below.refl _ _).alloc (Nat.le_refl _) _
  have hg : Blk W1 W.heap.size 31 #[.int .i64 kd, .int .i64 pd] := by rw [← hW1]; exact Blk.new _ _ _
  obtain ⟨b1, b2, F, G, hC, hR, hF, hG, hd⟩ := hD
  have hlt := hC.lt
  have hrlt := hR.lt
  have hC1 : CT W1 F g n L := hC.keep (Keep.new hbb (F := fun k => W.heap.size ≤ k)) (fun r hr hs => by have := hlt r hr; omega)
  have hR1 : RC W1 G h0 L := hR.keep (Keep.new hbb (F := fun k => W.heap.size ≤ k)) (fun r hr hs => by have := hrlt r hr; omega)
  have hFW : ¬ F W.heap.size := fun hk => by have := hlt _ hk; omega
  have hGW : ¬ G W.heap.size := fun hk => by have := hrlt _ hk; omega
  have hbx := b1.trans (hbb.mono b2)
  have hzx := Nat.le_trans b2 hbb.size
  have HBOTH := Lib.hid (show ∀ (L' : List Int) (n' : Nat) (w1 w2 : World), Moved W1 F g n' L' w1 → RMoved w1 G h0 L' w2 → DS B0 w0 g n' h0 L' w2 from fun L' n' w1 w2 h1 h2 => DS.both hbx hzx hC1 hR1 hF hG hd h1 h2)
  have HRK := Lib.hid (show ∀ (L' : List Int) (n' : Nat) (w1 : World), Moved W1 F g n' L' w1 → RC w1 G h0 L from fun L' n' w1 h1 => hR1.keep h1.2 (fun r hr hs => hd r hs hr))
  have HBK1 := Lib.hid (show ∀ w1, Keep F W1 w1 → Blk w1 W.heap.size 31 #[.int .i64 kd, .int .i64 pd] from fun w1 hk => hg.keep hk hFW)
  have HBK2 := Lib.hid (show ∀ w1 w2, Keep F W1 w1 → Keep G w1 w2 → Blk w2 W.heap.size 31 #[.int .i64 kd, .int .i64 pd] from fun w1 w2 hk hk2 => (hg.keep hk hFW).keep hk2 hGW)
  have HC1 := Lib.hid hC1
  have HR1 := Lib.hid hR1
  have HDS := Lib.hid (show DS B0 w0 g n h0 L W1 from ⟨hbx, hzx, F, G, hC1, hR1, hF, hG, hd⟩)
  have HW := Lib.hid hW1
  have HG := Lib.hid hg
  have HP := Lib.hid hp
  have HFN := Lib.hid hf
  have HK := Lib.hid hk
  have hL1 : L.length < 1073741824 := by omega
  have hL2 : L.length ≤ 1073741824 := by omega
  have hL3 : L.length ≤ 65536 := by omega
  have hn1 : n < 1099511627776 := by omega
  have p0 := hg.cell 0; have p1 := hg.cell 1
  rw [← hW1] at p0 p1
  clear hf hW1 hbb hg hC1 hR1 hbx hzx hC hR hlt hrlt hFW hGW b1 b2 hF hG hd hk hp
  by_cases k0 : kd = 0
  · subst k0
    have HS := Lib.hid (show ∀ w1 wx', Keep F W1 w1 → Keep G w1 wx' → ((wx'.cell? ⟨W.heap.size, 0, none⟩ = some (.int .i64 0) ∧ wx'.cell? ⟨W.heap.size, 1, none⟩ = some (.int .i64 pd)) ∧ True) from fun w1 wx' h1 h2 => by
      have hb := HBK2.out w1 wx' h1 h2
      exact ⟨⟨hb.cell 0, hb.cell 1⟩, trivial⟩)
    go_enter Try.func8, Try.ntmps8
    go_wp2_with fail
    rw [HW.out]
    go_region_held3 (fun wx' => (wx'.cell? ⟨W.heap.size, 0, none⟩ = some (.int .i64 0) ∧ wx'.cell? ⟨W.heap.size, 1, none⟩ = some (.int .i64 pd)) ∧ True) (first
      | exact HS.out _ _ (Keep.refl _ _) ((Keep.refl G W1).drewN 1)
      | exact HS.out _ _ HM2.out.1.2 (Classical.choose_spec HM2.out.2).2.2
      | exact HS.out _ _ HM1.out.2 (Keep.refl _ _)
      | assumption) (first
      | (go_at_call 19
         refine (add_any g n L pd (World.drew _) F (HC1.out.drewN 1) HP.out hL1 hn1).mono ?_
         rintro e wz ⟨rfl, hm1⟩
         have HM1 := Lib.hid (show Moved W1 F g (n + 1) (adL L pd) wz from ⟨hm1.1, Keep.undrew hm1.2⟩)
         clear hm1)
      | (go_at_call 22
         refine (radd_any h0 L pd _ G (HRK.out _ _ _ HM1.out) hL3 HP.out).mono ?_
         rintro e wz2 ⟨rfl, hm2⟩
         have HM2 := Lib.hid (And.intro HM1.out hm2)
         clear hm2)
      | fail)
    go_wp2_with fail
    go_ret
    exact ⟨rfl, adL L pd, HBOTH.out _ _ _ _ HM2.out.1 HM2.out.2, ad_len L pd, fine_ad HFN.out pd⟩
  · by_cases k1 : kd = 1
    · subst k1
      have HR1x := Lib.hid (release_any g n L pd W1 F HC1.out HP.out hL2 hn1)
      have HR2x := Lib.hid (fun w h => rrelease_any h0 L pd w G h hL3)
      go_enter Try.func8, Try.ntmps8
      go_wp2_with fail
      rw [HW.out]
      refine HR1x.out.mono ?_
      rintro e wz ⟨rfl, hm1⟩
      have HM1 := Lib.hid hm1
      have hq := (HBK1.out wz hm1.2).cell 1
      clear hm1
      go_wp2_with fail
      refine (HR2x.out _ (HRK.out _ _ _ HM1.out)).mono ?_
      rintro e wz2 ⟨rfl, hm2⟩
      have HM2 := Lib.hid hm2
      clear hm2
      go_wp2_with fail
      go_ret
      exact ⟨ret1_b (by simp), less L pd 1, HBOTH.out _ _ _ _ HM1.out HM2.out, by have := less_len L pd 1; omega, fine_less HFN.out pd 1⟩
    · by_cases k2 : kd = 2
      · subst k2
        have HR1x := Lib.hid (drop_any g n L pd W1 F HC1.out HP.out hL2)
        have HR2x := Lib.hid (fun w h => rdrop_any h0 L pd w G h hL3)
        go_enter Try.func8, Try.ntmps8
        go_wp2_with fail
        rw [HW.out]
        refine HR1x.out.mono ?_
        rintro e wz ⟨rfl, hm1⟩
        have HM1 := Lib.hid hm1
        have hq := (HBK1.out wz hm1.2).cell 1
        clear hm1
        go_wp2_with fail
        refine (HR2x.out _ (HRK.out _ _ _ HM1.out)).mono ?_
        rintro e wz2 ⟨rfl, hm2⟩
        have HM2 := Lib.hid hm2
        clear hm2
        go_wp2_with fail
        go_ret
        exact ⟨ret1_b (by simp), less L pd (cnt L pd), DS.more (HBOTH.out _ _ _ _ HM1.out HM2.out), by have := less_len L pd (cnt L pd); omega, fine_less HFN.out pd _⟩
      · have e0 : (kd == 0) = false := by simpa using k0
        have e1 : (kd == 1) = false := by simpa using k1
        have e2 : (kd == 2) = false := by simpa using k2
        clear k0 k1 k2
        go_enter Try.func8, Try.ntmps8
        go_wp2_with fail
        go_ret
        rw [HW.out]
        exact ⟨rfl, L, DS.more HDS.out, by omega, HFN.out⟩
end Go.Proofs.Ytbldebjdgenfdaa.Fx
