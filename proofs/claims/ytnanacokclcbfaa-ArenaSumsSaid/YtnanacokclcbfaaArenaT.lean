/- Take of an arena, by its contract. -/
import Derived.Test.YtnanacokclcbfaaArena
namespace Go.Proofs.Ytnanacokclcbfaa.Ar
open Go.RowKit K
set_option linter.unusedVariables false
set_option linter.unusedSimpArgs false

theorem round_zero (n : Nat) (hn : n ≤ maxLen) (h : n < 1 ∨ 16777216 < n) (w : World) :
    Calls Try.prog 9 #[.int .i64 (n : Int)] w fun e w' => e = .returned (.int .i64 0) ∧ w = w' := by
  have e : rndI (n : Int) = 0 := by unfold rndI; rw [if_pos (by omega)]
  rw [← e]
  exact round_any (n : Int) (WalkArith.wf_i64 (by unfold maxLen at hn; omega)) w
theorem rndI_nat {n : Nat} (h1 : 1 ≤ n) (h2 : n ≤ 16777216) : rndI (n : Int) = (rnd n : Int) := by unfold rndI; rw [if_neg (by omega)]; simp
theorem round_nat (n : Nat) (h1 : 1 ≤ n) (h2 : n ≤ 16777216) (w : World) :
    Calls Try.prog 9 #[.int .i64 (n : Int)] w fun e w' => e = .returned (.int .i64 (rnd n : Int)) ∧ w = w' := by
  rw [← rndI_nat h1 h2]
  exact round_any (n : Int) (WalkArith.wf_i64 (by omega)) w
theorem Reads.keepB {w w' : World} {B size n : Nat} {A : Option Addr} {xs : List Value} (h : Reads w B size A n xs) (hk : ∀ ad p, A = some ad → p.block = ad.block → p.block < B → w'.cell? p = w.cell? p) : Reads w' B size A n xs :=
  ⟨h.1, fun hn => by
    obtain ⟨ad, e, hb, hc⟩ := h.2 hn
    exact ⟨ad, e, hb, fun j u hu => (hk ad _ e (block_of_add _ _) (by rw [block_of_add]; exact hb)).trans (hc j u hu)⟩⟩

def tkE (all : Nat) (B : Bks) (n : Nat) : Int := if n < 1 ∨ 16777216 < n then 2 else if used B + rnd n ≤ all then 0 else 11
def tkN (all : Nat) (B : Bks) (n : Nat) : Int := if n < 1 ∨ 16777216 < n then 0 else if used B + rnd n ≤ all then (B.length : Int) + 1 else 0
def tkB (all : Nat) (B : Bks) (ws : List Int) : Bks := if ws.length < 1 ∨ 16777216 < ws.length then B else if used B + rnd ws.length ≤ all then B ++ [some ws] else B
def TkPost (w : World) (F : Nat → Prop) (g all n : Nat) (B : Bks) (ws : List Int) (e : Ending) (w' : World) : Prop :=
  e = .returned (.tuple #[.int .i64 (tkN all B ws.length), .int .i64 (tkE all B ws.length)]) ∧ Moved w F g all (n + 1) (tkB all B ws) w'

/-- A clone is put under a number: what lies then. -/
theorem moved_put {w w1 w2 w3 w4 : World} {F : Nat → Prop} {g bm all n n' : Nat} {B B' : Bks} {D : DataW Value} {v : Value} {ws : List Int} {k : Int} (fl : ∀ k, F k → k < w.heap.size) (fg : F g) (fm : F bm)
    (hB : ∃ cs, Blk w g 51 cs) (hM : w.ownsMap Try.prog 3 RV bm n D) (hD : MapIs w F D B) (K1 : Keep (fun k => k = g) w w1) (hb2 : Below w1.heap.size w1 w2) (hg3 : w2.grownBy w3 (some bm)) (K4 : Keep (fun k => k = g) w3 w4)
    (hM4 : w4.ownsMap Try.prog 3 RV bm n' (D.put (ky k) (.held v))) (hB4 : Blk w4 g 51 #[.int .i64 (all : Int), .int .i64 (used B' : Int), .int .i64 (B'.length : Int), .map (some bm)])
    (hR2 : w2.ownsRow w1.heap.size 68 1 v ws.length (wds ws)) (hk : ∀ j, bAt B' j = if j = k then some ws else bAt B j) (h1 : all ≤ 16777216) (h2 : used B' ≤ all) (h3 : B'.length ≤ n') (h4 : LenOk B') : Moved w F g all n' B' w4 := by
  obtain ⟨cs, hB⟩ := hB
  have hgl := hB.lt
  have hml := hM.lt
  have s1 := K1.size
  have s2 := hb2.size
  have s3 := hg3.size
  have s4 := K4.size
  have K2 : Keep (fun k => k = g ∨ k = bm) w w2 := (K1.mono (fun i _ h => .inl h)).trans (Keep.new hb2 (F := fun k => w1.heap.size ≤ k)) (fun i hi h => by omega)
  have K3 : Keep (fun k => k = g ∨ k = bm) w w3 := K2.grown hg3 (fun k hk => by injection hk with hk; exact .inl (.inr hk.symm))
  have K5 : Keep (fun k => k = g ∨ k = bm) w w4 := K3.trans K4 (fun i hi h => .inl h)
  refine ⟨fun k => (F k ∨ w.heap.size ≤ k) ∧ k < w4.heap.size, ⟨bm, _, fun k hk => hk.2, ⟨.inl fg, by omega⟩, ⟨.inl fm, by omega⟩, hB4, hM4, mapIs_put (hD.imp fun v' ws' hr => ⟨ownsRow_keep hr.1 K5 ?_, fun r hr2 => ⟨.inl (hr.2 r hr2), ?_⟩⟩) ⟨?_, ?_⟩ hk, h1, h2, h3, h4⟩, fun k hk => hk.1, ?_⟩
  · rintro r hr2 (rfl | rfl)
    · exact own_blk_ne hr.1 hB (by decide) hr2
    · exact map_row_ne hM hr.1 hr2
  · have := fl r (hr.2 r hr2); omega
  · have hlt := hR2.lt
    have hR3 : w3.ownsRow w1.heap.size 68 1 v ws.length (wds ws) := hR2.kept hg3 (by
      cases hv : v.ownBlock with
      | none => exact .inl rfl
      | some x => exact .inr (fun e => by injection e with e; have := (hlt x hv).1; omega))
    exact ownsRow_base (ownsRow_keep hR3 K4 (fun r hr e => by have := (hlt r hr).1; omega)) (fun r hr => Nat.zero_le r)
  · intro r hr
    have := hR2.lt r hr
    exact ⟨.inr (by omega), by omega⟩
  · exact K5.mono (fun i hi h => by rcases h with rfl | rfl; exact fg; exact fm)

set_option maxRecDepth 100000 in
set_option maxHeartbeats 4000000 in
theorem take_any (g all n : Nat) (B : Bks) (A : Option Addr) (c : Nat) (ws : List Int) (w : World) (F : Nat → Prop) (hT : AR w F g all n B) (hx : Reads w w.heap.size 1 A ws.length (wds ws)) (hA : A = none → c = 0)
    (hAg : ∀ ad, A = some ad → ad.block ≠ g) (hl : ws.length ≤ maxLen) (hn : n < 1099511627776) :
    Calls Try.prog 14 #[.pointer (some ⟨g, 0, none⟩), .slice A ws.length c] w (TkPost w F g all n B ws) := by
  have HT := Lib.hid (Moved.stay (hT.more (Nat.le_succ n)))
  have hl2 : ws.length ≤ 9223372036854775807 := by unfold maxLen at hl; exact hl
  obtain ⟨bm, D, fl, fg, fm, hB, hM, hD, h1, h2, h3, h4⟩ := hT
  have H4 := Lib.hid h4
  clear h4
  have c0 : w.cell? ⟨g, 0, none⟩ = some (.int .i64 (all : Int)) := by rw [hB.cell]; rfl
  have c1 : w.cell? ⟨g, 1, none⟩ = some (.int .i64 (used B : Int)) := by rw [hB.cell]; rfl
  have c2 : w.cell? ⟨g, 2, none⟩ = some (.int .i64 (B.length : Int)) := by rw [hB.cell]; rfl
  have c3 : w.cell? ⟨g, 3, none⟩ = some (.map (some bm)) := by rw [hB.cell]; rfl
  by_cases hz : ws.length < 1 ∨ 16777216 < ws.length
  · have e1 : tkE all B ws.length = 2 := by unfold tkE; rw [if_pos hz]
    have e2 : tkN all B ws.length = 0 := by unfold tkN; rw [if_pos hz]
    have e3 : tkB all B ws = B := by unfold tkB; rw [if_pos hz]
    have HR := Lib.hid (fun w => round_zero ws.length hl hz w)
    have E1 := Lib.hid e1; have E2 := Lib.hid e2; have E3 := Lib.hid e3
    clear e1 e2 e3 hz hD hM hB hx
    go_enter Try.func14, Try.ntmps14
    go_wp2_with (first
      | (go_at_call 9; refine (HR.out _).mono ?_; rintro e w1 ⟨rfl, rfl⟩)
      | (go_at_call 27; refine (none_no g bm _ c3).mono ?_; rintro e w1 ⟨rfl, rfl⟩))
    go_ret2
    exact ⟨ret2_ii E2.out.symm E1.out.symm, by rw [E3.out]; exact HT.out⟩
  · have hR := fun w => round_nat ws.length (by omega) (by omega) w
    obtain ⟨q, hq⟩ : ∃ q, rnd ws.length = q := ⟨_, rfl⟩
    have q1 : q ≤ 33554432 := by have := rnd_lt (n := ws.length) (by omega) (by omega); omega
    rw [hq] at hR
    have HR := Lib.hid hR
    by_cases hf : used B + q ≤ all
    · have e1 : tkE all B ws.length = 0 := by unfold tkE; rw [if_neg hz, if_pos (by rw [hq]; exact hf)]
      have e2 : tkN all B ws.length = (B.length : Int) + 1 := by unfold tkN; rw [if_neg hz, if_pos (by rw [hq]; exact hf)]
      have e3 : tkB all B ws = B ++ [some ws] := by unfold tkB; rw [if_neg hz, if_pos (by rw [hq]; exact hf)]
      have E1 := Lib.hid e1; have E2 := Lib.hid e2; have E3 := Lib.hid e3; have HQ := Lib.hid hq
      have f2 : w.frozen? ⟨g, 2, none⟩ = false := hB.frozen 2
      have f1 : w.frozen? ⟨g, 1, none⟩ = false := hB.frozen 1
      have q0 : 1 ≤ q := by rw [← hq]; have := rnd_ge (n := ws.length) (by omega) (by omega); omega
      have q2 : (q : Int) ≤ (all : Int) - (used B : Int) := by omega
      have hl3 : ws.length ≤ 16777216 := by omega
      have hl1 : 1 ≤ ws.length := by omega
      have hbg : bm ≠ g := map_blk_ne hM hB
      clear e1 e2 e3 hz hR hq
      go_enter Try.func14, Try.ntmps14
      go_wp2_with (first
        | (go_at_call 9; refine (HR.out _).mono ?_; rintro e w1 ⟨rfl, rfl⟩)
        | (go_at_call 27; refine (none_no g bm _ c3).mono ?_; rintro e w1 ⟨rfl, rfl⟩))
      go_quiet (fail)
      go_wp2_with fail
      have K1 : Keep (fun k => k = g) w ((w.drewN nq).setCell ⟨g, 2, none⟩ (.int .i64 ((B.length : Int) + 1))) := ((Keep.refl (fun k => k = g) w).drewN nq).setCell (p := ⟨g, 2, none⟩) (.inl rfl) _
      have hB1 : Blk ((w.drewN nq).setCell ⟨g, 2, none⟩ (.int .i64 ((B.length : Int) + 1))) g 51 #[.int .i64 (all : Int), .int .i64 (used B : Int), .int .i64 ((B.length : Int) + 1), .map (some bm)] := (hB.drewN nq).set_ 2 _
      have hM1 : ((w.drewN nq).setCell ⟨g, 2, none⟩ (.int .i64 ((B.length : Int) + 1))).ownsMap Try.prog 3 RV bm n D := World.ownsMap.setCell (w := w.drewN nq) hM hbg _
      have hx1 : Reads ((w.drewN nq).setCell ⟨g, 2, none⟩ (.int .i64 ((B.length : Int) + 1))) w.heap.size 1 A ws.length (wds ws) := Reads.keepB (hx.drewN nq) (fun ad p e e2 _ => World.cell?_setCell_other (w.drewN nq) _ _ _ (fun h => hAg ad e (by rw [← e2]; exact (congrArg Addr.block h).symm)))
      generalize ((w.drewN nq).setCell ⟨g, 2, none⟩ (.int .i64 ((B.length : Int) + 1))) = w1 at K1 hB1 hM1 hx1 ⊢
      have d2 : w1.cell? ⟨g, 2, none⟩ = some (.int .i64 ((B.length : Int) + 1)) := by rw [hB1.cell]; rfl
      have d3 : w1.cell? ⟨g, 3, none⟩ = some (.map (some bm)) := by rw [hB1.cell]; rfl
      have hg1 : g < w1.heap.size := hB1.lt
      have HCl := Lib.hid (clone_u64 A ws.length c w.heap.size (wds ws) w1.drew hx1.drew K1.size (wds_one ws) (by omega) hA)
      have hkey : keyOf Try.prog 3 (.int .i64 ((B.length : Int) + 1)) = some (.int .i64 ((B.length : Int) + 1)) := Go.Maps.keyOf_int_mk Try.underlying3 (WalkArith.wf_i64 (by omega))
      have hbm := hM1.lt
      have hnm : n < maxLen := by unfold maxLen; omega
      have HB0 := Lib.hid hB; have HM0 := Lib.hid hM; have HD0 := Lib.hid hD
      clear c0 c1 c2 c3 hB hM hx f2 f1 hx1 hD
      go_region_held3 (fun w' => w'.cell? ⟨g, 2, none⟩ = some (.int .i64 ((B.length : Int) + 1)) ∧ w'.cell? ⟨g, 3, none⟩ = some (.map (some bm))) (first | exact ⟨d2, d3⟩ | exact ⟨e2, e3⟩ | exact ⟨k2, k3⟩) (first
        | (go_at_call 28
           refine HCl.out.mono ?_
           rintro e w2 ⟨v2, rfl, hR2, hb2'⟩
           have hb2 : Below w1.heap.size w1 w2 := ⟨hb2'.os, hb2'.tape, hb2'.output, hb2'.size, hb2'.block⟩
           clear hb2'
           obtain ⟨A2, cp2, rfl, hcp1, hcp2⟩ := ownsRow_form hR2
           have hB2 := hB1.below hb2 hg1
           have hM2 := ownsMap_below hM1 hb2 hbm
           have e2 : w2.cell? ⟨g, 2, none⟩ = some (.int .i64 ((B.length : Int) + 1)) := by rw [hB2.cell]; rfl
           have e3 : w2.cell? ⟨g, 3, none⟩ = some (.map (some bm)) := by rw [hB2.cell]; rfl
           obtain ⟨w3, hrun, hM3, hg3⟩ := World.ownsMap.update hM2 (t := 49) law Try.underlying49 hnm hkey (show RV (.slice A2 ws.length cp2) = some (.held (.slice A2 ws.length cp2), []) from rfl)
           have hB3 := hB2.grown hg3 (by simpa using fun e => hbg e.symm)
           have k2 : w3.cell? ⟨g, 2, none⟩ = some (.int .i64 ((B.length : Int) + 1)) := by rw [hB3.cell]; rfl
           have k3 : w3.cell? ⟨g, 3, none⟩ = some (.map (some bm)) := by rw [hB3.cell]; rfl)
        | fail)
      have e1' : w3.cell? ⟨g, 1, none⟩ = some (.int .i64 (used B : Int)) := by rw [hB3.cell]; rfl
      have f1' : w3.frozen? ⟨g, 1, none⟩ = false := hB3.frozen 1
      go_wp2_with fail
      go_ret2
      refine ⟨ret2_ii E2.out.symm E1.out.symm, ?_⟩
      rw [E3.out]
      refine moved_put fl fg fm ⟨_, HB0.out⟩ HM0.out HD0.out K1 hb2 hg3 ((Keep.refl (fun k => k = g) w3).setCell (p := ⟨g, 1, none⟩) (.inl rfl) _) (World.ownsMap.setCell hM3 hbg _) ?_ hR2 (bAt_append B ws) h1 (by rw [used_append, HQ.out]; exact hf) (by simp; omega) (H4.out.append hl1 hl3)
      have := hB3.set_ 1 (.int .i64 ((used B : Int) + (q : Int)))
      rw [used_append, HQ.out]
      simpa using this
    · have e1 : tkE all B ws.length = 11 := by unfold tkE; rw [if_neg hz, if_neg (by rw [hq]; exact hf)]
      have e2 : tkN all B ws.length = 0 := by unfold tkN; rw [if_neg hz, if_neg (by rw [hq]; exact hf)]
      have e3 : tkB all B ws = B := by unfold tkB; rw [if_neg hz, if_neg (by rw [hq]; exact hf)]
      have E1 := Lib.hid e1; have E2 := Lib.hid e2; have E3 := Lib.hid e3
      have q2 : (all : Int) - (used B : Int) < (q : Int) := by omega
      have q0 : 1 ≤ q := by rw [← hq]; have := rnd_ge (n := ws.length) (by omega) (by omega); omega
      clear e1 e2 e3 hz hR hq hD hM hB hx hf
      go_enter Try.func14, Try.ntmps14
      go_wp2_with (first
        | (go_at_call 9; refine (HR.out _).mono ?_; rintro e w1 ⟨rfl, rfl⟩)
        | (go_at_call 27; refine (none_no g bm _ c3).mono ?_; rintro e w1 ⟨rfl, rfl⟩))
      go_quiet (fail)
      go_wp2_with fail
      go_ret2
      exact ⟨ret2_ii E2.out.symm E1.out.symm, by rw [E3.out]; exact HT.out.drewN _⟩
end Go.Proofs.Ytnanacokclcbfaa.Ar
