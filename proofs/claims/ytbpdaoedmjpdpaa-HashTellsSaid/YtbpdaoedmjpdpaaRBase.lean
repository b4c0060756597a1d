/- tenureref04.Bytes, by its contract: a row of its own with the term's bytes. -/
import Derived.Test.YtbpdaoedmjpdpaaHashOps
import Derived.Test.YtbpdaoedmjpdpaaSteps
import Derived.Test.YtbpdaoedmjpdpaaHashNum
import Derived.Lib.AppendStr
namespace Go.Proofs.Ytbpdaoedmjpdpaa.Hs
open Go.RowKit K
set_option linter.unusedVariables false
set_option linter.unusedSimpArgs false

theorem infoB8 : (Try.prog.info? 5).map (fun i => (i.zero, i.size, i.bytes)) = some (some (.int .u8 0), 1, 1) := by kernel_rfl
/-- The row of the call's own. -/
def RB (w1 : World) (bs : List B8) (v : Value) (W : World) : Prop := W.ownsRow w1.heap.size 5 1 v bs.length (encs8 bs) ∧ Below w1.heap.size w1 W
section
variable {w1 W W2 : World} {bs : List B8} {v : Value}
theorem RB.form (h : RB w1 bs v W) : ∃ A c, v = .slice A bs.length c := by
  obtain ⟨A, c, rfl, _⟩ := ownsRow_form h.1
  exact ⟨A, c, rfl⟩
theorem RB.below (h : RB w1 bs v W) (hb : Below W.heap.size W W2) : RB w1 bs v W2 := by
  refine ⟨ownsRow_below h.1 hb fun r hr => (h.1.lt r hr).2, bnext h.2 hb⟩
theorem RB.alloc (h : RB w1 bs v W) (o : Obj) : RB w1 bs v (W.alloc o) := ⟨h.1.alloc _, h.2.alloc h.2.size _⟩
theorem RB.next (h : RB w1 bs v W) {v' : Value} {n : Nat} {cs : List B8} (hn : n = (bs ++ cs).length) (ho : W2.ownsRow w1.heap.size 5 1 v' n (encs8 bs ++ encs8 cs)) (hg : W.grownBy W2 v.ownBlock) : RB w1 (bs ++ cs) v' W2 := by
  subst hn
  refine ⟨by rw [show encs8 (bs ++ cs) = encs8 bs ++ encs8 cs from by simp [encs8]]; exact ho, ?_⟩
  exact h.2.grown hg h.2.size (fun r e => (h.1.lt r e).1)
theorem RB.more (h : RB w1 bs v W) (A : Option Addr) (c : Nat) (cs : List B8) (hr : Reads W W.heap.size 1 A cs.length (encs8 cs)) (hl : bs.length + cs.length ≤ 1099511627776) :
    ∃ v' W', (Builtin.append_ #[23, 23] 23 #[v, .slice A cs.length c]).run Try.prog W = .ok v' W' ∧ RB w1 (bs ++ cs) v' W' := by
  obtain ⟨i0, hi, hi0, hi1, hi2⟩ := info_parts infoB8
  obtain ⟨v', W', h1, h2, h3, _⟩ := run_append_any (P := Try.prog) W w1.heap.size 23 23 5 i0 _ 1 1 Try.underlying23 hi hi0 hi1 hi2 rfl (by omega) v bs.length (encs8 bs) h.1 W.heap.size A cs.length c (encs8 cs) hr (encs8_one cs) (by unfold maxLen; omega) (by omega) h.2.size
  exact ⟨v', W', h1, h.next (by simp) h2 h3⟩
theorem RB.one (h : RB w1 bs v W) (x : B8) (hl : bs.length + 1 ≤ 1099511627776) :
    ∃ v' W', (Builtin.append_ #[23, 23] 23 #[v, .slice (some ⟨W.heap.size, 0, none⟩) 1 1]).run Try.prog (W.alloc (.cells #[.int .u8 x.1] 5)) = .ok v' W' ∧ RB w1 (bs ++ [x]) v' W' := by
  have hB := World.ownsRow_lit (base := 0) (e := 5) (size := 1) W #[.int .u8 x.1] 1 (Nat.zero_le _) (by unfold maxLen; omega) rfl
  exact (h.alloc (.cells #[.int .u8 x.1] 5)).more (some ⟨W.heap.size, 0, none⟩) 1 [x] (Reads.of_own hB) (by simpa using hl)
theorem strCells_encs (s : ByteArray) : Lib.strCells s = encs8 (strB s) := by
  unfold Lib.strCells encs8 strB
  rw [List.map_map]
  refine List.map_congr_left fun c _ => ?_
  show _ = Value.int .u8 ((c.toNat : Int) % 256)
  rw [Int.emod_eq_of_lt (by omega) (by have := c.toNat_lt; omega)]
theorem RB.str (h : RB w1 bs v W) (s : ByteArray) (hl : bs.length + s.size ≤ 1099511627776) :
    ∃ v' W', (Builtin.append_ #[23, 9] 23 #[v, .string s]).run Try.prog W = .ok v' W' ∧ RB w1 (bs ++ strB s) v' W' := by
  obtain ⟨i0, hi, hi0, hi1, hi2⟩ := info_parts infoB8
  obtain ⟨v', W', h1, h2, h3, _⟩ := Lib.run_append_own_string (P := Try.prog) W w1.heap.size 23 9 23 5 i0 Try.underlying23 Try.underlying9 hi hi0 hi1 hi2 v bs.length (encs8 bs) h.1 s (by unfold maxLen; omega) (by omega) h.2.size
  rw [strCells_encs] at h2
  exact ⟨v', W', h1, h.next (by simp [strB]) h2 h3⟩
end
theorem b8_val (x : Int) : (b8 x).1 = x % 256 := rfl
theorem strB_len2 (s : ByteArray) : (strB s).length = s.size := by simp [strB]
theorem wpList_append_run2 {P : Program} {ops : Array Oper} {rest : List Oper} {o : Oper} {a : Act} {w w' : World} {Q : Exit → Act → World → Prop} (s x : Operand) (t t2 : TypeId) (v u v' : Value) (hrun : (Builtin.append_ #[t, t2] o.type #[v, u]).run P w = .ok v' w')
    (hgd : o.guard = none) (ho : o.op = .call { callee := .builtin .append, args := #[s, x], argTypes := #[t, t2] })
    (hs : a.eval s = v) (hx : a.eval x = u) (h : wpList P ops Q rest (a.put o.dst v') w') : wpList P ops Q (o :: rest) a w :=
  wpList_plain hgd fun _ hK => by
    unfold Oper.wp execOp
    simp only [ho, resolve, invoke, builtin, Sem.run_bind, Sem.run_pure, Result.andThen_ok, List.map_toArray, List.map_cons, List.map_nil, hs, hx, hrun]
    exact hK _ _ h
def RBytesC (t : Tm) : Prop := (bytesT t).length ≤ 1099511627776 → ∀ (v : Value) (w : World), TA w t v → Calls Try.prog 24 #[v] w fun e w' =>
  ∃ v', e = .returned v' ∧ w'.ownsRow w.heap.size 5 1 v' (bytesT t).length (encs8 (bytesT t)) ∧ Below w.heap.size w w'

end Go.Proofs.Ytbpdaoedmjpdpaa.Hs
