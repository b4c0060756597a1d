/- The document's buckets (tenureref10), in memory; New, of, Len, Wants, At, each by its contract. -/
import Derived.Test.YtjipncpplpfobaaLbBand
import Derived.Test.YtjipncpplpfobaaHeldZ
namespace Go.Proofs.Ytjipncpplpfobaa.Lb
open Go.RowKit K Hs
set_option linter.unusedVariables false
set_option linter.unusedSimpArgs false

def RB (w : World) (G : Nat → Prop) (g least : Nat) (gr cap : Nat) (L : List (List It)) : Prop :=
  (∀ k, G k → k < w.heap.size) ∧ G g ∧ Blk w g 64 #[.int .i64 (least : Int), .slice (some ⟨gr, 0, none⟩) L.length cap] ∧ Rws w G gr cap L
section
variable {w w' w1 : World} {F G G' : Nat → Prop} {g gr cap least : Nat} {L : List (List It)}
theorem RB.mono (h : RB w G g least gr cap L) (hG : ∀ k, G k → G' k) (hl : ∀ k, G' k → k < w.heap.size) : RB w G' g least gr cap L := ⟨hl, hG _ h.2.1, h.2.2.1, h.2.2.2.mono hG⟩
theorem RB.keep (h : RB w G g least gr cap L) (hk : Keep F w w') (hd : ∀ r, G r → ¬ F r) : RB w' G g least gr cap L :=
  ⟨fun k hk2 => Nat.lt_of_lt_of_le (h.1 k hk2) hk.size, h.2.1, h.2.2.1.keep hk (hd _ h.2.1), h.2.2.2.keep hk hd⟩
theorem RB.cells (h : RB w G g least gr cap L) : w.cell? ⟨g, 0, none⟩ = some (.int .i64 (least : Int)) ∧ w.cell? ⟨g, 1, none⟩ = some (.slice (some ⟨gr, 0, none⟩) L.length cap) ∧
    w.frozen? ⟨g, 1, none⟩ = false ∧ g < w.heap.size ∧ gr < w.heap.size ∧ L.length ≤ cap ∧ cap ≤ maxLen ∧ g ≠ gr := by
  obtain ⟨h1, h2, h3, h4⟩ := h
  obtain ⟨o1, o2, o3, o4⟩ := h4.outer
  refine ⟨by rw [h3.cell]; rfl, by rw [h3.cell]; rfl, h3.frozen _, h1 _ h2, o1, o3, o4, ?_⟩
  rintro rfl
  obtain ⟨V, r1, _⟩ := h4
  exact own_blk_ne r1 h3 (by decide) (by simp [Value.ownBlock])
theorem RB.row_ne (h : RB w G g least gr cap L) {A : Option Addr} {n c : Nat} {xs : List Value} (hr : w.ownsRow 0 54 2 (.slice A n c) n xs) : (Value.slice A n c).ownBlock ≠ some g := own_blk_ne hr h.2.2.1 (by decide)
theorem RB.setG (h : RB w G g least gr cap L) {i : Nat} {l l' : List It} {A A' : Option Addr} {c c' : Nat} (hi : L[i]? = some l) (hc : w.cell? ⟨gr, i, none⟩ = some (.slice A l.length c))
    (hk : Keep (fun k => (Value.slice A l.length c).ownBlock = some k) w w1) (hn : w1.ownsRow 0 54 2 (.slice A' l'.length c') l'.length (itL l'))
    (hat : ∀ r, (Value.slice A' l'.length c').ownBlock = some r → (Value.slice A l.length c).ownBlock = some r ∨ ¬ G r) :
    RB (w1.setCell ⟨gr, i, none⟩ (.slice A' l'.length c')) (fun k => G k ∨ (Value.slice A' l'.length c').ownBlock = some k) g least gr cap (L.set i l') ∧ Keep G w (w1.setCell ⟨gr, i, none⟩ (.slice A' l'.length c')) := by
  have hz : (w1.setCell ⟨gr, i, none⟩ (.slice A' l'.length c')).heap.size = w1.heap.size := by simp [World.setCell]
  obtain ⟨_, _, _, q1, q2, q3, q4, q5⟩ := h.cells
  obtain ⟨Ax, cx, s1, s2, s3, s4, _⟩ := h.2.2.2.spot hi
  rw [hc] at s1
  injection s1 with s1
  injection s1 with e1 _ e2
  subst e1 e2
  have hg := h.row_ne s3
  obtain ⟨h1, h2, h3, h4⟩ := h
  refine ⟨⟨fun k hk2 => ?_, .inl h2, ?_, h4.setG hi hc hk hn hat⟩, ?_⟩
  · rw [hz]
    rcases hk2 with hk2 | hk2
    · exact Nat.lt_of_lt_of_le (h1 k hk2) hk.size
    · exact (hn.lt k hk2).2
  · rw [List.length_set]
    exact (h3.keep hk hg).far q5 _
  · refine (hk.mono (fun j hj hj2 => (s4 j hj2).1)).setCell (.inl h4.outer.2.1) _
/-- A row that is new. -/
theorem RB.fresh (h : RB w G g least gr cap L) {i : Nat} {l l' : List It} {A' : Option Addr} {n' c' : Nat} (hi : L[i]? = some l) (hb : Below w.heap.size w w1) (hn : w1.ownsRow w.heap.size 54 2 (.slice A' n' c') n' (itL l')) (hl : n' = l'.length) :
    RB (w1.setCell ⟨gr, i, none⟩ (.slice A' n' c')) (upG G w (w1.setCell ⟨gr, i, none⟩ (.slice A' n' c'))) g least gr cap (L.set i l') ∧ Keep G w (w1.setCell ⟨gr, i, none⟩ (.slice A' n' c')) := by
  subst hl
  obtain ⟨A, c, s1, s2, s3, s4, _⟩ := h.2.2.2.spot hi
  have hS := h.setG hi s1 (Keep.new hb) (ownsRow_base hn (fun r _ => Nat.zero_le r)) (fun r hr => .inr (fun hg => by have := h.1 r hg; have := (hn.lt r hr).1; omega))
  refine ⟨hS.1.mono (fun k hk => ?_) (fun k hk => ?_), hS.2⟩
  · rcases hk with hk | hk
    · exact .inl hk
    · exact .inr ⟨(hn.lt k hk).1, hS.1.1 k (.inr hk)⟩
  · rcases hk with hk | hk
    · exact hS.1.1 k (.inl hk)
    · exact hk.2
/-- The outer row is another now. -/
theorem RB.outer (h : RB w G g least gr cap L) {gr' cap' : Nat} {L' : List (List It)} (hb : Below w.heap.size w w1) (hr : Rws w1 (fun k => G k ∨ (w.heap.size ≤ k ∧ k < w1.heap.size)) gr' cap' L') :
    RB (w1.setCell ⟨g, 1, none⟩ (.slice (some ⟨gr', 0, none⟩) L'.length cap')) (upG G w (w1.setCell ⟨g, 1, none⟩ (.slice (some ⟨gr', 0, none⟩) L'.length cap'))) g least gr' cap' L' ∧ Keep G w (w1.setCell ⟨g, 1, none⟩ (.slice (some ⟨gr', 0, none⟩) L'.length cap')) := by
  have hz : (w1.setCell ⟨g, 1, none⟩ (.slice (some ⟨gr', 0, none⟩) L'.length cap')).heap.size = w1.heap.size := by simp [World.setCell]
  have hk : Keep (fun _ => False) w w1 := Keep.new hb
  have hB1 : Blk w1 g 64 #[.int .i64 (least : Int), .slice (some ⟨gr, 0, none⟩) L.length cap] := h.2.2.1.keep hk (fun h => h)
  have hks := (Keep.refl (fun k => k = g) w1).setCell (p := ⟨g, 1, none⟩) (.inl rfl) (.slice (some ⟨gr', 0, none⟩) L'.length cap')
  refine ⟨⟨fun k hk2 => ?_, .inl h.2.1, ?_, ?_⟩, ?_⟩
  · rw [hz]
    rcases hk2 with hk2 | hk2
    · exact Nat.lt_of_lt_of_le (h.1 k hk2) hk.size
    · rw [← hz]; exact hk2.2
  · have := hB1.set_ 1 (.slice (some ⟨gr', 0, none⟩) L'.length cap')
    simpa using this
  · obtain ⟨V, r1, r2, r3, r4⟩ := hr
    have hgB : gr' ≠ g := by
      rintro rfl
      exact own_blk_ne r1 hB1 (by decide) (by simp [Value.ownBlock])
    have r2' : upG G w (w1.setCell ⟨g, 1, none⟩ (.slice (some ⟨gr', 0, none⟩) L'.length cap')) gr' := by unfold upG; rw [hz]; exact r2
    refine ⟨V, ownsRow_keep r1 hks (fun r hr e => ?_), r2', fun i l hi => ?_, r4⟩
    · have : gr' = r := by simpa [Value.ownBlock] using hr
      subst this
      exact hgB e
    obtain ⟨A, c, a1, a2, a3⟩ := r3 i l hi
    refine ⟨A, c, a1, ownsRow_keep a2 hks (fun r hr e => ?_), fun r hr => ?_⟩
    · subst e; exact own_blk_ne a2 hB1 (by decide) hr
    · unfold upG; rw [hz]; exact a3 r hr
  · exact (hk.mono (fun i _ e => e.elim)).setCell (.inl h.2.1) _
/-- Some rows of an outer row, in an outer row of their own. -/
theorem Rws.copy (h : Rws w G gr cap L) {m gr' cap' : Nat} (hb : Below w.heap.size w w1) (hm : m ≤ L.length) (hn : ∀ V, w.ownsRow 0 43 1 (.slice (some ⟨gr, 0, none⟩) L.length cap) L.length V → w1.ownsRow w.heap.size 43 1 (.slice (some ⟨gr', 0, none⟩) m cap') m (V.take m)) :
    Rws w1 (fun k => G k ∨ (w.heap.size ≤ k ∧ k < w1.heap.size)) gr' cap' (L.take m) := by
  obtain ⟨V, h1, h2, h3, h4⟩ := h
  have hV := hn V h1
  have e : (L.take m).length = m := by simp; omega
  have hl := hV.lt gr' (by simp [Value.ownBlock])
  refine ⟨V.take m, by rw [e]; exact ownsRow_base hV (fun r _ => Nat.zero_le r), .inr hl, fun i l hi => ?_, fun i j u u' r hi hj hu hu' => ?_⟩
  · rw [List.getElem?_take] at hi
    split at hi
    · rename_i him
      obtain ⟨A, c, a1, a2, a3⟩ := h3 i l hi
      exact ⟨A, c, by rw [List.getElem?_take, if_pos him]; exact a1, ownsRow_below a2 hb (fun r hr => (a2.lt r hr).2), fun r hr => .inl (a3 r hr)⟩
    · cases hi
  · rw [List.getElem?_take] at hi hj
    split at hi <;> split at hj
    · exact h4 i j u u' r hi hj hu hu'
    all_goals first | cases hi | cases hj
end

theorem rof_any (g gr m c : Nat) (h : Int) (w : World) (hc : w.cell? ⟨g, 1, none⟩ = some (.slice (some ⟨gr, 0, none⟩) m c)) (h0 : 0 ≤ h) (h1 : h ≤ 4294967295) (m1 : 1 ≤ m) (m2 : m ≤ 1048576) :
    Calls Try.prog 44 #[.pointer (some ⟨g, 0, none⟩), .int .u32 h] w fun e w' => e = .returned (.int .i64 (bk h m : Int)) ∧ w = w' := by
  have HB := Lib.hid (fun w => rbucket_any h (m : Int) w h0 h1)
  have HE := Lib.hid (bk_int (h := h) m1 m2)
  have HK := Lib.hid (bk_ok m1 m2)
  rw [HE.out, HK.out] at HB
  clear h0 h1 m1 m2
  go_enter Try.func44, Try.ntmps44
  go_wp2_with (first | (go_at_call 47; refine (HB.out _).mono ?_; rintro e w' ⟨rfl, rfl⟩) | fail)
  go_ret
  exact ⟨rfl, rfl⟩
def IsNewR (w : World) (n : Nat) (e : Ending) (w' : World) : Prop :=
  ∃ g, e = .returned (.tuple #[.pointer (some ⟨g, 0, none⟩), .int .i64 0]) ∧ (∃ gr cap, RB w' (fun k => w.heap.size ≤ k ∧ k < w'.heap.size) g n gr cap (List.replicate n [])) ∧ Below w.heap.size w w'
set_option maxRecDepth 100000 in
set_option maxHeartbeats 4000000 in
theorem rnew_yes (n : Nat) (h1 : 1 ≤ n) (h2 : n ≤ 1024) (w : World) : Calls Try.prog 8 #[.int .i64 (n : Int)] w (IsNewR w n) := by
  have HMK := fun w => run_make_row' (P := Try.prog) 37 43 (.slice none 0 0) 24 Try.underlying37 infoII rfl .i64 .i64 n (by omega) (by omega) w
  have e0 : madeCells #[Value.slice none 0 0] n = (List.replicate n (Value.slice none 0 0)).toArray := by
    apply Array.ext'
    rw [toList_madeCells_one]
  have hmk : ∀ w, (Instr.makeSlice 37 (.int .i64 (n : Int)) (.int .i64 (n : Int))).run Try.prog w = .ok (.slice (some ⟨w.heap.size, 0, none⟩) n n) (w.alloc (.cells (List.replicate n (Value.slice none 0 0)).toArray 43)) := fun w => by
    rw [← e0]; exact HMK w
  clear HMK e0
  obtain ⟨cs, hcs⟩ : ∃ cs, (List.replicate n (Value.slice none 0 0)).toArray = cs := ⟨_, rfl⟩
  have c1 : (1 : Int) ≤ (n : Int) := by omega
  have c2 : (n : Int) ≤ 1024 := by omega
  rw [hcs] at hmk
  have HC := Lib.hid hcs
  clear hcs
  go_enter Try.func8, Try.ntmps8
  go_wp2
  go_ret2
  have hR := Rws.make w n (by unfold maxLen; omega)
  rw [HC.out] at hR
  have hk : Keep (fun k => w.heap.size + 1 ≤ k) (w.alloc (.cells cs 43)) ((w.alloc (.cells cs 43)).alloc (.cells #[.int .i64 (n : Int), .slice (some ⟨w.heap.size, 0, none⟩) n n] 64)) := (Keep.refl _ _).alloc _
  refine ⟨w.heap.size + 1, rfl, ⟨w.heap.size, n, fun k hk => hk.2, by simp, ?_, (hR.keep hk (fun r hr => by omega)).mono (fun k hk => by subst hk; simp; omega)⟩, ((Below.refl _ _).alloc (Nat.le_refl _) _).alloc (by simp) _⟩
  rw [List.length_replicate]
  have := Blk.new (w.alloc (.cells cs 43)) 64 #[.int .i64 (n : Int), .slice (some ⟨w.heap.size, 0, none⟩) n n]
  simpa using this
theorem rnew_no (n : Int) (hn : (Lit.int .i64 n).wf = true) (h : n < 1 ∨ 1024 < n) (w : World) :
    Calls Try.prog 8 #[.int .i64 n] w fun e w' => e = .returned (.tuple #[.pointer none, .int .i64 2]) ∧ w = w' := by
  obtain ⟨n1, n2⟩ := bounds_i64 hn
  by_cases h1 : n < 1
  · clear h
    go_enter Try.func8, Try.ntmps8
    go_wp2
    go_ret2
    exact ⟨rfl, rfl⟩
  · have h2 : 1024 < n := by omega
    clear h
    go_enter Try.func8, Try.ntmps8
    go_wp2
    go_ret2
    exact ⟨rfl, rfl⟩
theorem tot_take_succ' {L : List (List It)} {k : Nat} {l : List It} (h : L[k]? = some l) : tot (L.take (k + 1)) = tot (L.take k) + l.length := by
  rw [List.take_add_one, h, tot_append]
  simp [tot]
theorem tot_take_le' (L : List (List It)) (k : Nat) : tot (L.take k) ≤ tot L := by
  have h := tot_append (L.take k) (L.drop k)
  rw [List.take_append_drop] at h
  omega
section
variable {w : World} {G : Nat → Prop} {g least gr cap : Nat} {L : List (List It)}
set_option maxRecDepth 100000 in
set_option maxHeartbeats 4000000 in
theorem rlen_any (hB : RB w G g least gr cap L) (hm : L.length ≤ 65536) (ht : tot L ≤ 65536) : Calls Try.prog 35 #[.pointer (some ⟨g, 0, none⟩)] w fun e w' => e = .returned (.int .i64 (tot L : Int)) ∧ w = w' := by
  obtain ⟨q0, q1, f1, g1, g2, n1, n2, hne⟩ := hB.cells
  have HR := Lib.hid hB.2.2.2
  obtain ⟨m, hm'⟩ : ∃ m, L.length = m := ⟨_, rfl⟩
  rw [hm'] at q1 hm
  have HM := Lib.hid hm'
  have HT := Lib.hid ht
  clear hB hm' n1 n2 ht
  go_enter Try.func35, Try.ntmps35
  go_wp2_with fail
  go_loop [3, 4] (fun s i => ∃ k : Nat, k ≤ m ∧ i = .int .i64 (k : Int) ∧ s = .int .i64 (tot (L.take k) : Int)) (fun _ i => m - (intOf i).toNat)
  case atStart => exact ⟨0, Nat.zero_le _, rfl, rfl⟩
  case round =>
    obtain ⟨k, hk, rfl, rfl⟩ := hrel
    by_cases hlt : k < m
    · obtain ⟨l, hl⟩ : ∃ l, L[k]? = some l := ⟨_, List.getElem?_eq_getElem (by rw [HM.out]; exact hlt)⟩
      obtain ⟨A, c, hcell, _⟩ := HR.out.spot hl
      have htk := tot_take_succ' hl
      have htl := tot_take_le' L (k + 1)
      have hT := HT.out
      obtain ⟨s, hs⟩ : ∃ s, tot (L.take k) = s := ⟨_, rfl⟩
      rw [hs] at htk ⊢
      have hsl : s + l.length ≤ 65536 := by omega
      have HTK := Lib.hid htk
      have hkb : k ≤ 65536 := by omega
      clear htk htl hT hs hl
      go_wp2_with fail
      go_round
      case rel => exact ⟨k + 1, by omega, by go_num, by rw [HTK.out]; go_num⟩
      case measure => simp [intOf]; omega
    · obtain rfl : k = m := by omega
      have htm : tot (L.take k) = tot L := by rw [← HM.out, List.take_length]
      rw [htm]
      clear htm
      go_wp2_with fail
      go_ret
      exact ⟨rfl, rfl⟩
theorem rat_yes (hB : RB w G g least gr cap L) (n : Nat) (l : List It) (hl : L[n]? = some l) :
    Calls Try.prog 32 #[.pointer (some ⟨g, 0, none⟩), .int .i64 (n : Int)] w fun e w' => ∃ A c, e = .returned (.tuple #[.slice A l.length c, .int .i64 0]) ∧ w.ownsRow 0 54 2 (.slice A l.length c) l.length (itL l) ∧ w = w' := by
  obtain ⟨q0, q1, f1, g1, g2, n1, n2, hne⟩ := hB.cells
  obtain ⟨A, c, hcell, hfz, hown, hblk, hA⟩ := hB.2.2.2.spot hl
  have hlt := (List.getElem?_eq_some_iff.1 hl).1
  obtain ⟨m, hm'⟩ : ∃ m, L.length = m := ⟨_, rfl⟩
  rw [hm'] at q1 hlt
  have HO := Lib.hid hown
  have b0 : (0 : Int) ≤ (n : Int) := by omega
  have b1 : (n : Int) < (m : Int) := by omega
  clear hB hown hblk hA hl hm' f1 n1 n2 hlt
  go_enter Try.func32, Try.ntmps32
  go_wp2_with fail
  go_ret2
  exact ⟨A, c, rfl, HO.out, rfl⟩
theorem rat_no (hB : RB w G g least gr cap L) (n : Int) (hn : n < 0 ∨ (L.length : Int) ≤ n) :
    Calls Try.prog 32 #[.pointer (some ⟨g, 0, none⟩), .int .i64 n] w fun e w' => e = .returned (.tuple #[.slice none 0 0, .int .i64 2]) ∧ w = w' := by
  obtain ⟨q0, q1, _⟩ := hB.cells
  obtain ⟨m, hm'⟩ : ∃ m, L.length = m := ⟨_, rfl⟩
  rw [hm'] at q1 hn
  clear hB hm' q0
  by_cases h1 : n < 0
  · clear hn
    go_enter Try.func32, Try.ntmps32
    go_wp2_with fail
    go_ret2
    exact ⟨rfl, rfl⟩
  · have h2 : (m : Int) ≤ n := by omega
    clear hn
    go_enter Try.func32, Try.ntmps32
    go_wp2_with fail
    go_ret2
    exact ⟨rfl, rfl⟩
set_option maxRecDepth 100000 in
set_option maxHeartbeats 8000000 in
theorem rwants_any (hB : RB w G g least gr cap L) (hm : L.length ≤ 65536) (ht : tot L ≤ 65536) : Calls Try.prog 36 #[.pointer (some ⟨g, 0, none⟩)] w fun e w' => e = .returned (.int .i64 (wantsI least (tot L : Int) L.length)) ∧ ∃ d, w' = w.drewN d := by
  have HLn := Lib.hid (rlen_any hB hm ht)
  obtain ⟨c0, c1, _⟩ := hB.cells
  obtain ⟨m, hm'⟩ : ∃ m, L.length = m := ⟨_, rfl⟩
  obtain ⟨cnt, hcn⟩ : ∃ n, tot L = n := ⟨_, rfl⟩
  rw [hm'] at c1 hm ⊢
  rw [hcn] at HLn ht ⊢
  clear hB hm' hcn
  have w2 : IntKind.i64.wrap (2 * (m : Int)) = 2 * (m : Int) := IntWalk.i64_in _ (by omega)
  have w3 : IntKind.i64.wrap (2 * (cnt : Int)) = 2 * (cnt : Int) := IntWalk.i64_in _ (by omega)
  by_cases t1 : 2 * (m : Int) < (cnt : Int)
  · have HE := Lib.hid (show (1 : Int) = wantsI least (cnt : Int) m from by unfold wantsI; rw [if_pos ⟨t1, by omega⟩])
    have d1 : decide (2 * (m : Int) < (cnt : Int)) = true := decide_eq_true t1
    have d2 : decide ((m : Int) < 1048576) = true := decide_eq_true (by omega)
    clear t1 hm ht
    go_enter Try.func36, Try.ntmps36
    go_wp2_with (first | (go_at_call 35; refine HLn.out.mono ?_; rintro e w' ⟨rfl, rfl⟩) | fail)
    go_ret
    exact ⟨by rw [← HE.out]; rfl, 0, rfl⟩
  · have d1 : decide (2 * (m : Int) < (cnt : Int)) = false := decide_eq_false t1
    by_cases t3 : (least : Int) < (m : Int)
    · by_cases t4 : 2 * (cnt : Int) < (m : Int)
      · have HE := Lib.hid (show (-1 : Int) = wantsI least (cnt : Int) m from by unfold wantsI; rw [if_neg (by omega), if_pos (by omega)])
        have d3 : decide (least < m) = true := decide_eq_true (by omega)
        have d4 : decide (2 * (cnt : Int) < (m : Int)) = true := decide_eq_true t4
        clear t1 t3 t4 hm ht
        go_enter Try.func36, Try.ntmps36
        go_wp2_with (first | (go_at_call 35; refine HLn.out.mono ?_; rintro e w' ⟨rfl, rfl⟩) | fail)
        go_quiet (fail)
        go_wp2_with fail
        go_ret
        exact ⟨by rw [← HE.out]; rfl, _, rfl⟩
      · have HE := Lib.hid (show (0 : Int) = wantsI least (cnt : Int) m from by unfold wantsI; rw [if_neg (by omega), if_neg (by omega)])
        have d3 : decide (least < m) = true := decide_eq_true (by omega)
        have d4 : decide (2 * (cnt : Int) < (m : Int)) = false := decide_eq_false t4
        clear t1 t3 t4 hm ht
        go_enter Try.func36, Try.ntmps36
        go_wp2_with (first | (go_at_call 35; refine HLn.out.mono ?_; rintro e w' ⟨rfl, rfl⟩) | fail)
        go_quiet (fail)
        go_wp2_with fail
        go_ret
        exact ⟨by rw [← HE.out]; rfl, _, rfl⟩
    · have HE := Lib.hid (show (0 : Int) = wantsI least (cnt : Int) m from by unfold wantsI; rw [if_neg (by omega), if_neg (by omega)])
      have d3 : decide (least < m) = false := decide_eq_false (by omega)
      clear t1 t3 hm ht
      go_enter Try.func36, Try.ntmps36
      go_wp2_with (first | (go_at_call 35; refine HLn.out.mono ?_; rintro e w' ⟨rfl, rfl⟩) | fail)
      go_quiet (fail)
      go_wp2_with fail
      go_ret
      exact ⟨by rw [← HE.out]; rfl, _, rfl⟩
end
end Go.Proofs.Ytjipncpplpfobaa.Lb
