/- The document's Add of a count, by its contract. -/
import Derived.Test.YtbldebjdgenfdaaRefFix
namespace Go.Proofs.Ytbldebjdgenfdaa.Fx
open Go.RowKit K
set_option linter.unusedVariables false
set_option linter.unusedSimpArgs false

def RMoved (w : World) (G : Nat → Prop) (h : Nat) (L : List Int) (w' : World) : Prop :=
  ∃ G' : Nat → Prop, RC w' G' h L ∧ (∀ k, G' k → G k ∨ w.heap.size ≤ k) ∧ Keep G w w'
theorem RMoved.stay {w : World} {F : Nat → Prop} {g : Nat} {L : List Int} (h : RC w F g L) : RMoved w F g L w := ⟨F, h, fun k hk => .inl hk, Keep.refl _ _⟩
theorem info3' : (Try.prog.info? 3).map (fun i => (i.zero, i.size, i.bytes)) = some (some (.int .i64 0), 1, 8) := by kernel_rfl
theorem rmoved_new {w w3 : World} {G : Nat → Prop} {g c3 c0 : Nat} {A0 A3 : Option Addr} {L : List Int} {s : Int} (fl : ∀ k, G k → k < w.heap.size) (fg : G g) (fv : ∀ r, (Value.slice A0 L.length c0).ownBlock = some r → G r)
    (hg3 : (w.alloc (.cells #[.int .i64 s] 3)).grownBy w3 (Value.slice A0 L.length c0).ownBlock) (hB3 : Blk w3 g 28 #[.slice A0 L.length c0])
    (hR3 : w3.ownsRow 0 3 1 (.slice A3 (L.length + 1) c3) (L.length + 1) (L.map (Value.int .i64) ++ [.int .i64 s])) (hat : (Value.slice A3 (L.length + 1) c3).ownBlock = (Value.slice A0 L.length c0).ownBlock ∨ (Value.slice A3 (L.length + 1) c3).ownBlock = some (w.alloc (.cells #[.int .i64 s] 3)).heap.size) :
    RMoved w G g (L ++ [s]) (w3.setCell ⟨g, 0, none⟩ (.slice A3 (L.length + 1) c3)) := by
  have hB4 := hB3.set_ 0 (.slice A3 (L.length + 1) c3)
  have hne : (Value.slice A3 (L.length + 1) c3).ownBlock ≠ some g := own_blk_ne hR3 hB3 (by decide)
  have hlen : (L ++ [s]).length = L.length + 1 := by simp
  refine ⟨fun k => (G k ∨ w.heap.size ≤ k) ∧ k < (w3.setCell ⟨g, 0, none⟩ (.slice A3 (L.length + 1) c3)).heap.size, ⟨.slice A3 (L.length + 1) c3, fun k hk => hk.2, ⟨.inl fg, by simpa [World.setCell] using hB3.lt⟩, ?_, ?_, ?_⟩, fun k hk => hk.1, ?_⟩
  · intro r hr
    refine ⟨?_, by simpa [World.setCell] using (hR3.lt r hr).2⟩
    rcases hat with h | h
    · rw [h] at hr; exact .inl (fv r hr)
    · rw [h] at hr
      injection hr with hr
      right
      simp at hr
      omega
  · simpa using hB4
  · rw [hlen]
    have := ownsRow_setCell_other hR3 (a := ⟨g, 0, none⟩) hne (.slice A3 (L.length + 1) c3)
    simpa using this
  · exact (((Keep.refl G w).alloc _).grown hg3 (fun k hk => .inl (fv k hk))).setCell (.inl fg) _

set_option maxRecDepth 100000 in
set_option maxHeartbeats 4000000 in
theorem radd_any (h : Nat) (L : List Int) (p : Int) (w : World) (G : Nat → Prop) (hT : RC w G h L) (hL : L.length ≤ 65536) (hp : (Lit.int .i64 p).wf = true) :
    Calls Try.prog 22 #[.pointer (some ⟨h, 0, none⟩), .int .i64 p] w fun e w' => e = .returned (.int .i64 (adE p)) ∧ RMoved w G h (adL L p) w' := by
  have HT := Lib.hid (RMoved.stay hT)
  obtain ⟨p1, p2⟩ := bounds_i64 hp
  obtain ⟨v, fl, fg, fv, hB, hR⟩ := hT
  obtain ⟨A0, c0, rfl, _, _⟩ := ownsRow_form hR
  have hc : w.cell? ⟨h, 0, none⟩ = some (.slice A0 L.length c0) := by rw [hB.cell]; rfl
  by_cases h1 : p < 0
  · have E1 := Lib.hid (show adE p = 2 from by unfold adE; rw [if_pos (.inl h1)])
    have E2 := Lib.hid (show adL L p = L from by unfold adL; rw [if_pos (.inl h1)])
    clear hR hB hL hp
    go_enter Try.func22, Try.ntmps22
    go_wp2_with fail
    go_ret
    exact ⟨ret1_i E1.out.symm, by rw [E2.out]; exact HT.out⟩
  · by_cases h2 : 1073741824 < p
    · have E1 := Lib.hid (show adE p = 2 from by unfold adE; rw [if_pos (.inr h2)])
      have E2 := Lib.hid (show adL L p = L from by unfold adL; rw [if_pos (.inr h2)])
      clear hR hB hL hp
      go_enter Try.func22, Try.ntmps22
      go_wp2_with fail
      go_ret
      exact ⟨ret1_i E1.out.symm, by rw [E2.out]; exact HT.out⟩
    · have E1 := Lib.hid (show adE p = 0 from by unfold adE; rw [if_neg (by omega)])
      have E2 := Lib.hid (show adL L p = L ++ [p] from by unfold adL; rw [if_neg (by omega)])
      obtain ⟨i0, hi, hz0, hz1, hz2⟩ := info_parts info3'
      obtain ⟨t, ht⟩ : ∃ t : Int, (L.length : Int) = t := ⟨_, rfl⟩
      have hlt : t < 1073741824 := by omega
      have hlt0 : 0 ≤ t := by omega
      have f1 : w.frozen? ⟨h, 0, none⟩ = false := hB.frozen 0
      have hrg : (Value.slice A0 L.length c0).ownBlock ≠ some h := own_blk_ne hR hB (by decide)
      have b1 : L.length + 1 ≤ maxLen := by unfold maxLen; omega
      have b2 : (L.length + 1) * 8 ≤ 140737488355328 := by omega
      clear hp hL
      go_enter Try.func22, Try.ntmps22
      go_wp2_with (first
        | (at_builtin; refine wpList_append_own_at _ rfl _ _ 26 rfl 0 3 i0 _ 1 8 Try.underlying26 hi hz0 hz1 hz2 rfl (by decide) _ _ _ rfl (hR.alloc _) ⟨w.heap.size, 0, none⟩ 1 1 [.int .i64 p] rfl rfl (cell_one_new _ _ _) (by simp [Value.oneCell']) b1 b2 (Nat.zero_le _) ?_; intro v3 w3 hR3 hg3 _ hat3
           have hB3 := (hB.alloc (.cells #[.int .i64 p] 3)).grown hg3 (fun e => hrg e.symm)
           obtain ⟨A3, cap3, rfl, hc3, hc4⟩ := ownsRow_form hR3
           have f3 : w3.frozen? ⟨h, 0, none⟩ = false := hB3.frozen 0
           have e1 : w3.cell? ⟨h, 0, none⟩ = some (.slice A0 L.length c0) := by rw [hB3.cell]; rfl)
        | fail)
      go_ret
      exact ⟨ret1_i E1.out.symm, by rw [E2.out]; exact rmoved_new fl fg fv hg3 hB3 hR3 hat3⟩
end Go.Proofs.Ytbldebjdgenfdaa.Fx
