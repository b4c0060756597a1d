/- hash.bytesOf: a term's bytes are told to a round each. -/
import Derived.Test.YtbpdaoedmjpdpaaHashNum
import Derived.Laws.IdiomStrings
namespace Go.Proofs.Ytbpdaoedmjpdpaa.Hs
open Go.RowKit Go.Shelf K
set_option linter.unusedVariables false
set_option linter.unusedSimpArgs false
attribute [local go_sem] Oper.semAt_some

theorem b8_wrap (x : Int) : (b8 x).1 = IntKind.u8.wrap x := by simp [b8, IntKind.wrap, IntKind.bits, IntKind.signed]
theorem b8_mod (x : Int) : (b8 x).1 = x % 256 := rfl
theorem b8_byte (c : UInt8) : (b8 (c.toNat : Int)).1 = (c.toNat : Int) := by
  have := c.toNat_lt
  show (c.toNat : Int) % 256 = _
  omega
/-- A text's bytes, in a new row. -/
theorem conv_str (s : ByteArray) (W : World) : ∃ (cap : Nat) (o : Obj) (W' : World), (convert 9 23 (.string s)).run Try.prog W = .ok (.slice (some ⟨W.heap.size, 0, none⟩) s.size cap) W' ∧ W' = W.drew.alloc o ∧
    ∀ j c, s.data.toList[j]? = some c → W'.cell? ⟨W.heap.size, j, none⟩ = some (.int .u8 (c.toNat : Int)) := by
  refine ⟨_, _, _, run_bytes_of_string W 9 23 5 s Try.underlying9 Try.underlying23 Try.underlying5, rfl, fun j c hj => ?_⟩
  have hj' := hj
  rw [show W.heap.size = W.drew.heap.size from rfl, World.cell?_alloc_mark]
  have hlt : j < s.data.size := by
    have := (List.getElem?_eq_some_iff.1 hj).1
    simpa using this
  unfold bytesRow
  rw [Array.getElem?_append_left (by simpa using hlt), Array.getElem?_map]
  have : s.data[j]? = some c := by rw [← Array.getElem?_toList]; exact hj
  rw [this]
  rfl
def Post (b : Nat) (J Jx : List B8 → World → Prop) (pre bs : List B8) (W : World) (e : Ending) (W' : World) : Prop :=
  (e = .returned (.bool true) ∧ J (pre ++ bs) W' ∧ Kb b W W' ∧ Vb b W') ∨ (e = .returned (.bool false) ∧ ∃ q, q <+: bs ∧ Jx (pre ++ q) W')
set_option maxRecDepth 100000 in
set_option maxHeartbeats 8000000 in
theorem bytes_in (b l N B0 : Nat) (J Jx : List B8 → World → Prop) (hJ : AbidesFrom B0 J) (hY : YOk Try.prog b l N J Jx) : ∀ (t : Tm) (m : Nat) (v : Value) (pre : List B8) (W : World), B0 ≤ W.heap.size → Vb b W → TAt W (fun k => ¬ Rb b W k) t v → J pre W → pre.length + (bytesT t).length ≤ N →
    CallsIn Fence.wide m Try.prog 44 #[v, .func (.yield l) #[] #[]] W (Post b J Jx pre (bytesT t) W) := by
  refine Tm.ind fun t ih m v pre W hB0 hv ht h0 hN => ?_
  obtain ⟨A, c, rfl, ok, hl⟩ := ht.inv
  obtain ⟨k, n, s, l0⟩ := t
  unfold tv
  simp only [Tm.k_mk, Tm.n_mk, Tm.s_mk, Tm.l_mk] at hl ih ⊢
  obtain ⟨W1, hW1⟩ : ∃ W1, (W.alloc (.cells #[.int .i64 k, .int .i64 n, .string s, .slice A l0.length c] 35)).alloc (.cells #[.func (.yield l) #[] #[]] 68) = W1 := ⟨_, rfl⟩
  have hk1 : Kb b W W1 := by rw [← hW1]; exact ((Kb.refl b W).alloc hv _).alloc (hv.alloc _) _
  have hv1 : Vb b W1 := hk1.2.1 hv
  have hJ1 : J pre W1 := by rw [← hW1]; exact abides_alloc hJ _ (abides_alloc hJ _ h0)
  have hbt : Blk W1 W.heap.size 35 #[.int .i64 k, .int .i64 n, .string s, .slice A l0.length c] := by rw [← hW1]; exact (Blk.new _ _ _).alloc _
  have hby : Blk W1 (W.heap.size + 1) 68 #[.func (.yield l) #[] #[]] := by
    rw [← hW1]
    have := Blk.new (W.alloc (.cells #[.int .i64 k, .int .i64 n, .string s, .slice A l0.length c] 35)) 68 #[.func (.yield l) #[] #[]]
    rwa [World.size_alloc] at this
  have hnt : ¬ Rb b W1 W.heap.size := by
    rw [← hW1]
    exact fun h => hv.new (.cells #[.int .i64 k, .int .i64 n, .string s, .slice A l0.length c] 35) ((Rb.alloc (hv.alloc _).1 _).1 h)
  have hny : ¬ Rb b W1 (W.heap.size + 1) := by
    rw [← hW1]
    have := (hv.alloc (.cells #[.int .i64 k, .int .i64 n, .string s, .slice A l0.length c] 35)).new (.cells #[.func (.yield l) #[] #[]] 68)
    rwa [World.size_alloc] at this
  have hs1 : W1.heap.size = W.heap.size + 2 := by rw [← hW1]; simp
  have hl1 := hk1.ts hl
  obtain ⟨fn, tmps, assign, body, hy, hR⟩ := hY (m - 1) pre (b8 k) W1 hJ1 (by rw [bytesT_mk] at hN; simp at hN; omega)
  rw [b8_mod] at hy
  have HR := Lib.hid hR
  obtain ⟨p0, p1, p2, p3, _, _, _, _⟩ := hbt.four
  have py := hby.cell 0
  have py : W1.cell? ⟨W.heap.size + 1, 0, none⟩ = some (.func (.yield l) #[] #[]) := py
  clear hR
  refine callsIn_of_wp Try.func44 rfl trivial ?_ rfl
  simp only [Try.ntmps44, List.size_toArray, List.length_cons, List.length_nil, Nat.reduceAdd, Nat.reduceSub, Array.replicate_succ, Array.replicate_zero, List.push_toArray, List.append_toArray, List.nil_append, List.cons_append]
  gi_wp2
  refine ⟨fun h => (by cases h), HR.out.mono ?_⟩
  rintro e W2 (⟨rfl, hJ2, hk2⟩ | ⟨rfl, hJx2⟩)
  case inr =>
    gi_wp2
    go_ret
    exact .inr ⟨rfl, [b8 k], ⟨_, by rw [bytesT_mk]; rfl⟩, hJx2⟩
  have hll0 : l0.length < 9223372036854775808 := by
    have h1 := ok.hl
    have h2 := ok.hc
    unfold maxLen at h2
    simp only [Tm.l_mk] at h1
    omega
  have hv1' := hv1
  have hnt1 := hnt; have hny1 := hny; have hbt1 := hbt; have hby1 := hby; have hK1 := hk1
  have hl1' := hl1
  have hv2 : Vb b W2 := hk2.2.1 hv1
  obtain ⟨hbt2, hnt2⟩ := hk2.blk hnt1 hbt1
  obtain ⟨hby2, hny2⟩ := hk2.blk hny1 hby1
  have hl2 := hk2.ts hl1
  have hK2 : Kb b W W2 := hK1.trans hk2
  clear p0 p1 p2 p3 py
  obtain ⟨p0, p1, p2, p3, _, _, _, _⟩ := hbt2.four
  have py : W2.cell? ⟨W.heap.size + 1, 0, none⟩ = some (.func (.yield l) #[] #[]) := hby2.cell 0
  have hs2 : W1.heap.size ≤ W2.heap.size := hk2.1
  clear hW1 hbt hby hnt hny hk1 hv1' hl1' HR hy
  by_cases k1 : k = 1
  · subst k1
    have hBT : bytesT (.mk 1 n s l0) = b8 1 :: (le8 n ++ ([] ++ [])) := by rw [bytesT_mk]; simp [midB, hasN, lenB, hasB]
    have hnum := num_in b l N B0 J Jx hJ hY n (W.heap.size + 1) (m - 1) (pre ++ [b8 1]) W2 (by have := hK2.1; omega) hv2 py hny2 hJ2 (by rw [hBT] at hN; simp [le8_len] at hN ⊢; omega)
    gi_wp2
    refine ⟨trivial, fun h => (by cases h), hnum.mono ?_⟩
    clear hnum
    rintro e W3 (⟨rfl, hJ3, hk3, hvv⟩ | ⟨rfl, q, ⟨r, hq⟩, hJx3⟩)
    case inr =>
      gi_wp2
      go_ret
      exact .inr ⟨rfl, b8 1 :: q, ⟨r, by rw [hBT, ← hq]; simp [List.append_assoc]⟩, by simpa [List.append_assoc] using hJx3⟩
    have hv3 : Vb b W3 := hk3.2.1 hv2
    obtain ⟨hbt3, hnt3⟩ := hk3.blk hnt2 hbt2
    obtain ⟨hby3, hny3⟩ := hk3.blk hny2 hby2
    have hl3 := hk3.ts hl2
    have hK3 : Kb b W W3 := hK2.trans hk3
    clear p0 p1 p2 p3 py
    obtain ⟨p0, p1, p2, p3, _, _, _, _⟩ := hbt3.four
    have py : W3.cell? ⟨W.heap.size + 1, 0, none⟩ = some (.func (.yield l) #[] #[]) := hby3.cell 0
    gi_wp2
    go_ret
    exact .inl ⟨rfl, by rw [hBT]; simpa [List.append_assoc] using hJ3, hK3, hv3⟩
  by_cases k3 : k = 3
  · subst k3
    have hBT : bytesT (.mk 3 n s l0) = b8 3 :: (le8 n ++ ([] ++ [])) := by rw [bytesT_mk]; simp [midB, hasN, lenB, hasB]
    have hnum := num_in b l N B0 J Jx hJ hY n (W.heap.size + 1) (m - 1) (pre ++ [b8 3]) W2 (by have := hK2.1; omega) hv2 py hny2 hJ2 (by rw [hBT] at hN; simp [le8_len] at hN ⊢; omega)
    gi_wp2
    refine ⟨trivial, fun h => (by cases h), hnum.mono ?_⟩
    clear hnum
    rintro e W3 (⟨rfl, hJ3, hk3, hvv⟩ | ⟨rfl, q, ⟨r, hq⟩, hJx3⟩)
    case inr =>
      gi_wp2
      go_ret
      exact .inr ⟨rfl, b8 3 :: q, ⟨r, by rw [hBT, ← hq]; simp [List.append_assoc]⟩, by simpa [List.append_assoc] using hJx3⟩
    have hv3 : Vb b W3 := hk3.2.1 hv2
    obtain ⟨hbt3, hnt3⟩ := hk3.blk hnt2 hbt2
    obtain ⟨hby3, hny3⟩ := hk3.blk hny2 hby2
    have hl3 := hk3.ts hl2
    have hK3 : Kb b W W3 := hK2.trans hk3
    clear p0 p1 p2 p3 py
    obtain ⟨p0, p1, p2, p3, _, _, _, _⟩ := hbt3.four
    have py : W3.cell? ⟨W.heap.size + 1, 0, none⟩ = some (.func (.yield l) #[] #[]) := hby3.cell 0
    gi_wp2
    go_ret
    exact .inl ⟨rfl, by rw [hBT]; simpa [List.append_assoc] using hJ3, hK3, hv3⟩
  by_cases k4 : k = 4
  · subst k4
    have hBT : bytesT (.mk 4 n s l0) = b8 4 :: (le8 n ++ ([] ++ [])) := by rw [bytesT_mk]; simp [midB, hasN, lenB, hasB]
    have hnum := num_in b l N B0 J Jx hJ hY n (W.heap.size + 1) (m - 1) (pre ++ [b8 4]) W2 (by have := hK2.1; omega) hv2 py hny2 hJ2 (by rw [hBT] at hN; simp [le8_len] at hN ⊢; omega)
    gi_wp2
    refine ⟨trivial, fun h => (by cases h), hnum.mono ?_⟩
    clear hnum
    rintro e W3 (⟨rfl, hJ3, hk3, hvv⟩ | ⟨rfl, q, ⟨r, hq⟩, hJx3⟩)
    case inr =>
      gi_wp2
      go_ret
      exact .inr ⟨rfl, b8 4 :: q, ⟨r, by rw [hBT, ← hq]; simp [List.append_assoc]⟩, by simpa [List.append_assoc] using hJx3⟩
    have hv3 : Vb b W3 := hk3.2.1 hv2
    obtain ⟨hbt3, hnt3⟩ := hk3.blk hnt2 hbt2
    obtain ⟨hby3, hny3⟩ := hk3.blk hny2 hby2
    have hl3 := hk3.ts hl2
    have hK3 : Kb b W W3 := hK2.trans hk3
    clear p0 p1 p2 p3 py
    obtain ⟨p0, p1, p2, p3, _, _, _, _⟩ := hbt3.four
    have py : W3.cell? ⟨W.heap.size + 1, 0, none⟩ = some (.func (.yield l) #[] #[]) := hby3.cell 0
    gi_wp2
    go_ret
    exact .inl ⟨rfl, by rw [hBT]; simpa [List.append_assoc] using hJ3, hK3, hv3⟩
  by_cases k6 : k = 6
  · subst k6
    have hBT : bytesT (.mk 6 n s l0) = b8 6 :: (le8 n ++ ([] ++ [])) := by rw [bytesT_mk]; simp [midB, hasN, lenB, hasB]
    have hnum := num_in b l N B0 J Jx hJ hY n (W.heap.size + 1) (m - 1) (pre ++ [b8 6]) W2 (by have := hK2.1; omega) hv2 py hny2 hJ2 (by rw [hBT] at hN; simp [le8_len] at hN ⊢; omega)
    gi_wp2
    refine ⟨trivial, fun h => (by cases h), hnum.mono ?_⟩
    clear hnum
    rintro e W3 (⟨rfl, hJ3, hk3, hvv⟩ | ⟨rfl, q, ⟨r, hq⟩, hJx3⟩)
    case inr =>
      gi_wp2
      go_ret
      exact .inr ⟨rfl, b8 6 :: q, ⟨r, by rw [hBT, ← hq]; simp [List.append_assoc]⟩, by simpa [List.append_assoc] using hJx3⟩
    have hv3 : Vb b W3 := hk3.2.1 hv2
    obtain ⟨hbt3, hnt3⟩ := hk3.blk hnt2 hbt2
    obtain ⟨hby3, hny3⟩ := hk3.blk hny2 hby2
    have hl3 := hk3.ts hl2
    have hK3 : Kb b W W3 := hK2.trans hk3
    clear p0 p1 p2 p3 py
    obtain ⟨p0, p1, p2, p3, _, _, _, _⟩ := hbt3.four
    have py : W3.cell? ⟨W.heap.size + 1, 0, none⟩ = some (.func (.yield l) #[] #[]) := hby3.cell 0
    gi_wp2
    go_ret
    exact .inl ⟨rfl, by rw [hBT]; simpa [List.append_assoc] using hJ3, hK3, hv3⟩
  by_cases k5 : k = 5
  · subst k5
    have hBT : bytesT (.mk 5 n s l0) = b8 5 :: (le8 n ++ ([b8 (l0.length : Int)] ++ bytesL l0)) := by rw [bytesT_mk]; simp [midB, hasN, lenB, hasB]
    have hnum := num_in b l N B0 J Jx hJ hY n (W.heap.size + 1) (m - 1) (pre ++ [b8 5]) W2 (by have := hK2.1; omega) hv2 py hny2 hJ2 (by rw [hBT] at hN; simp [le8_len] at hN ⊢; omega)
    gi_wp2
    refine ⟨trivial, fun h => (by cases h), hnum.mono ?_⟩
    clear hnum
    rintro e W3 (⟨rfl, hJ3, hk3, hvv⟩ | ⟨rfl, q, ⟨r, hq⟩, hJx3⟩)
    case inr =>
      gi_wp2
      go_ret
      exact .inr ⟨rfl, b8 5 :: q, ⟨r ++ ([b8 (l0.length : Int)] ++ bytesL l0), by rw [hBT, ← hq]; simp [List.append_assoc]⟩, by simpa [List.append_assoc] using hJx3⟩
    have hv3 : Vb b W3 := hk3.2.1 hv2
    obtain ⟨hbt3, hnt3⟩ := hk3.blk hnt2 hbt2
    obtain ⟨hby3, hny3⟩ := hk3.blk hny2 hby2
    have hl3 := hk3.ts hl2
    have hK3 : Kb b W W3 := hK2.trans hk3
    clear p0 p1 p2 p3 py
    obtain ⟨p0, p1, p2, p3, _, _, _, _⟩ := hbt3.four
    have py : W3.cell? ⟨W.heap.size + 1, 0, none⟩ = some (.func (.yield l) #[] #[]) := hby3.cell 0
    obtain ⟨fn3, tm3, as3, bo3, hy3, hR3⟩ := hY (m - 1) (pre ++ [b8 5] ++ le8 n) (b8 (l0.length : Int)) W3 hJ3 (by rw [hBT] at hN; simp [le8_len] at hN ⊢; omega)
    rw [b8_mod] at hy3
    have HR3 := Lib.hid hR3
    clear hR3
    gi_wp2
    refine ⟨fun h => (by cases h), HR3.out.mono ?_⟩
    rintro e W4 (⟨rfl, hJ4, hk4⟩ | ⟨rfl, hJx4⟩)
    case inr =>
      gi_wp2
      go_ret
      exact .inr ⟨rfl, b8 5 :: (le8 n ++ [b8 (l0.length : Int)]), ⟨bytesL l0, by rw [hBT]; simp [List.append_assoc]⟩, by simpa [List.append_assoc] using hJx4⟩
    clear hy3 HR3
    have hv4 : Vb b W4 := hk4.2.1 hv3
    obtain ⟨hbt4, hnt4⟩ := hk4.blk hnt3 hbt3
    obtain ⟨hby4, hny4⟩ := hk4.blk hny3 hby3
    have hl4 := hk4.ts hl3
    have hK4 : Kb b W W4 := hK3.trans hk4
    clear p0 p1 p2 p3 py
    obtain ⟨p0, p1, p2, p3, _, _, _, _⟩ := hbt4.four
    have py : W4.cell? ⟨W.heap.size + 1, 0, none⟩ = some (.func (.yield l) #[] #[]) := hby4.cell 0
    obtain ⟨P0, hP0⟩ : ∃ P, pre ++ [b8 5] ++ le8 n ++ [b8 (l0.length : Int)] = P := ⟨_, rfl⟩
    have HP0 := Lib.hid hP0
    rw [hP0] at hJ4
    clear hP0
    gi_wp2
    gi_loopw [69] (fun i wr => ∃ j : Nat, j ≤ l0.length ∧ i = .int .i64 (j : Int) ∧ J (P0 ++ bytesL (l0.take j)) wr ∧ Kb b W4 wr) (fun i _ => l0.length - (intOf i).toNat)
    case atStart => exact ⟨0, Nat.zero_le _, rfl, by simpa [bytesL_nil] using hJ4, Kb.refl _ _⟩
    case round =>
      obtain ⟨j, hj, rfl, hJr, hkr⟩ := hrel
      have hvr := hkr.2.1 hv4
      obtain ⟨hbyr, hnyr⟩ := hkr.blk hny4 hby4
      have pyr : wr.cell? ⟨W.heap.size + 1, 0, none⟩ = some (.func (.yield l) #[] #[]) := hbyr.cell 0
      clear p0 p1 p2 p3 py
      by_cases hlt : j < l0.length
      · have HLT := Lib.hid hlt
        obtain ⟨u, hu⟩ : ∃ u, l0[j]? = some u := ⟨_, List.getElem?_eq_getElem hlt⟩
        have hst := bytesL_take_succ hu
        have hlen : (bytesL (l0.take (j + 1))).length ≤ (bytesL l0).length := by
          have := bytesL_append (l0.take (j + 1)) (l0.drop (j + 1))
          rw [List.take_append_drop] at this
          rw [this, List.length_append]; omega
        obtain ⟨bb, o, A5, c5, rfl, hb5, d0, d1, d2, d3, ok5, hta5⟩ := (hkr.ts hl4).at_ hu
        obtain ⟨W5, hW5⟩ : ∃ W5, wr.alloc (.cells #[.int .i64 u.k, .int .i64 u.n, .string u.s, .slice A5 u.l.length c5] 35) = W5 := ⟨_, rfl⟩
        have hk5 : Kb b wr W5 := by rw [← hW5]; exact (Kb.refl b wr).alloc hvr _
        have hJ5 : J (P0 ++ bytesL (l0.take j)) W5 := by rw [← hW5]; exact abides_alloc hJ _ hJr
        have hv5 := hk5.2.1 hvr
        have hB5 : Blk W5 wr.heap.size 35 #[.int .i64 u.k, .int .i64 u.n, .string u.s, .slice A5 u.l.length c5] := by rw [← hW5]; exact Blk.new _ _ _
        obtain ⟨e0, e1, e2, e3, _, _, _, _⟩ := hB5.four
        obtain ⟨hby5, hny5⟩ := hk5.blk hnyr hbyr
        have py5 : W5.cell? ⟨W.heap.size + 1, 0, none⟩ = some (.func (.yield l) #[] #[]) := hby5.cell 0
        have hz5 := hk5.1
        have hzr := hkr.1
        have hzi := hK4.1
        have hic := ih u (List.mem_of_getElem? hu) (m - 1) _ (P0 ++ bytesL (l0.take j)) W5 (by omega) hv5 (hk5.ta (TAt.of ok5 hta5)) hJ5 (by
          have h1 : (bytesL (l0.take (j + 1))).length = (bytesL (l0.take j)).length + (bytesT u).length := by rw [hst, List.length_append]
          have h2 := congrArg List.length HP0.out
          rw [hBT] at hN
          simp [le8_len] at hN h1 h2 ⊢
          omega)
        unfold Post at hic
        rw [List.append_assoc, ← hst] at hic
        unfold tv at hic
        gi_wp2
        refine ⟨trivial, fun h => (by cases h), hic.mono ?_⟩
        clear hic
        rintro e W6 (⟨rfl, hJ6, hk6, hvv⟩ | ⟨rfl, q, ⟨r, hq⟩, hJx6⟩)
        · gi_wp2
          go_roundw
          case rel => exact ⟨j + 1, HLT.out, by go_num, hJ6, (hkr.trans hk5).trans hk6⟩
          case measure =>
            have := HLT.out
            simp [intOf]; omega
        · gi_wp2
          go_ret
          refine .inr ⟨rfl, b8 5 :: ((le8 n ++ [b8 (l0.length : Int)]) ++ bytesL (l0.take j)) ++ q, ⟨r ++ bytesL (l0.drop (j + 1)), ?_⟩, ?_⟩
          · rw [hBT]
            have h1 := bytesL_append (l0.take (j + 1)) (l0.drop (j + 1))
            rw [List.take_append_drop, hst, ← hq] at h1
            rw [h1]
            simp [List.append_assoc]
          · have := HP0.out
            rw [← this] at hJx6
            simpa [List.append_assoc] using hJx6
      · obtain rfl : j = l0.length := by omega
        rw [List.take_length] at hJr
        gi_wp2
        go_ret
        refine .inl ⟨rfl, ?_, hK4.trans hkr, hvr⟩
        rw [hBT]
        have := HP0.out
        rw [← this] at hJr
        simpa [List.append_assoc] using hJr
  by_cases k7 : k = 7
  · subst k7
    have hBT : bytesT (.mk 7 n s l0) = b8 7 :: ([] ++ ([b8 (l0.length : Int)] ++ bytesL l0)) := by rw [bytesT_mk]; simp [midB, hasN, lenB, hasB]
    obtain ⟨fn2, tm2, as2, bo2, hy2, hR2⟩ := hY (m - 1) (pre ++ [b8 7]) (b8 (l0.length : Int)) W2 hJ2 (by rw [hBT] at hN; simp [le8_len] at hN ⊢; omega)
    rw [b8_mod] at hy2
    have HR2 := Lib.hid hR2
    clear hR2
    gi_wp2
    refine ⟨fun h => (by cases h), HR2.out.mono ?_⟩
    rintro e W3 (⟨rfl, hJ3, hk3⟩ | ⟨rfl, hJx3⟩)
    case inr =>
      gi_wp2
      go_ret
      exact .inr ⟨rfl, b8 7 :: [b8 (l0.length : Int)], ⟨bytesL l0, by rw [hBT]; simp [List.append_assoc]⟩, by simpa [List.append_assoc] using hJx3⟩
    clear hy2 HR2
    have hv3 : Vb b W3 := hk3.2.1 hv2
    obtain ⟨hbt3, hnt3⟩ := hk3.blk hnt2 hbt2
    obtain ⟨hby3, hny3⟩ := hk3.blk hny2 hby2
    have hl3 := hk3.ts hl2
    have hK3 : Kb b W W3 := hK2.trans hk3
    clear p0 p1 p2 p3 py
    obtain ⟨p0, p1, p2, p3, _, _, _, _⟩ := hbt3.four
    have py : W3.cell? ⟨W.heap.size + 1, 0, none⟩ = some (.func (.yield l) #[] #[]) := hby3.cell 0
    obtain ⟨P0, hP0⟩ : ∃ P, pre ++ [b8 7] ++ [b8 (l0.length : Int)] = P := ⟨_, rfl⟩
    have HP0 := Lib.hid hP0
    rw [hP0] at hJ3
    clear hP0
    gi_wp2
    gi_loopw [69] (fun i wr => ∃ j : Nat, j ≤ l0.length ∧ i = .int .i64 (j : Int) ∧ J (P0 ++ bytesL (l0.take j)) wr ∧ Kb b W3 wr) (fun i _ => l0.length - (intOf i).toNat)
    case atStart => exact ⟨0, Nat.zero_le _, rfl, by simpa [bytesL_nil] using hJ3, Kb.refl _ _⟩
    case round =>
      obtain ⟨j, hj, rfl, hJr, hkr⟩ := hrel
      have hvr := hkr.2.1 hv3
      obtain ⟨hbyr, hnyr⟩ := hkr.blk hny3 hby3
      have pyr : wr.cell? ⟨W.heap.size + 1, 0, none⟩ = some (.func (.yield l) #[] #[]) := hbyr.cell 0
      clear p0 p1 p2 p3 py
      by_cases hlt : j < l0.length
      · have HLT := Lib.hid hlt
        obtain ⟨u, hu⟩ : ∃ u, l0[j]? = some u := ⟨_, List.getElem?_eq_getElem hlt⟩
        have hst := bytesL_take_succ hu
        have hlen : (bytesL (l0.take (j + 1))).length ≤ (bytesL l0).length := by
          have := bytesL_append (l0.take (j + 1)) (l0.drop (j + 1))
          rw [List.take_append_drop] at this
          rw [this, List.length_append]; omega
        obtain ⟨bb, o, A5, c5, rfl, hb5, d0, d1, d2, d3, ok5, hta5⟩ := (hkr.ts hl3).at_ hu
        obtain ⟨W5, hW5⟩ : ∃ W5, wr.alloc (.cells #[.int .i64 u.k, .int .i64 u.n, .string u.s, .slice A5 u.l.length c5] 35) = W5 := ⟨_, rfl⟩
        have hk5 : Kb b wr W5 := by rw [← hW5]; exact (Kb.refl b wr).alloc hvr _
        have hJ5 : J (P0 ++ bytesL (l0.take j)) W5 := by rw [← hW5]; exact abides_alloc hJ _ hJr
        have hv5 := hk5.2.1 hvr
        have hB5 : Blk W5 wr.heap.size 35 #[.int .i64 u.k, .int .i64 u.n, .string u.s, .slice A5 u.l.length c5] := by rw [← hW5]; exact Blk.new _ _ _
        obtain ⟨e0, e1, e2, e3, _, _, _, _⟩ := hB5.four
        obtain ⟨hby5, hny5⟩ := hk5.blk hnyr hbyr
        have py5 : W5.cell? ⟨W.heap.size + 1, 0, none⟩ = some (.func (.yield l) #[] #[]) := hby5.cell 0
        have hz5 := hk5.1
        have hzr := hkr.1
        have hzi := hK3.1
        have hic := ih u (List.mem_of_getElem? hu) (m - 1) _ (P0 ++ bytesL (l0.take j)) W5 (by omega) hv5 (hk5.ta (TAt.of ok5 hta5)) hJ5 (by
          have h1 : (bytesL (l0.take (j + 1))).length = (bytesL (l0.take j)).length + (bytesT u).length := by rw [hst, List.length_append]
          have h2 := congrArg List.length HP0.out
          rw [hBT] at hN
          simp [le8_len] at hN h1 h2 ⊢
          omega)
        unfold Post at hic
        rw [List.append_assoc, ← hst] at hic
        unfold tv at hic
        gi_wp2
        refine ⟨trivial, fun h => (by cases h), hic.mono ?_⟩
        clear hic
        rintro e W6 (⟨rfl, hJ6, hk6, hvv⟩ | ⟨rfl, q, ⟨r, hq⟩, hJx6⟩)
        · gi_wp2
          go_roundw
          case rel => exact ⟨j + 1, HLT.out, by go_num, hJ6, (hkr.trans hk5).trans hk6⟩
          case measure =>
            have := HLT.out
            simp [intOf]; omega
        · gi_wp2
          go_ret
          refine .inr ⟨rfl, b8 7 :: ([b8 (l0.length : Int)] ++ bytesL (l0.take j)) ++ q, ⟨r ++ bytesL (l0.drop (j + 1)), ?_⟩, ?_⟩
          · rw [hBT]
            have h1 := bytesL_append (l0.take (j + 1)) (l0.drop (j + 1))
            rw [List.take_append_drop, hst, ← hq] at h1
            rw [h1]
            simp [List.append_assoc]
          · have := HP0.out
            rw [← this] at hJx6
            simpa [List.append_assoc] using hJx6
      · obtain rfl : j = l0.length := by omega
        rw [List.take_length] at hJr
        gi_wp2
        go_ret
        refine .inl ⟨rfl, ?_, hK3.trans hkr, hvr⟩
        rw [hBT]
        have := HP0.out
        rw [← this] at hJr
        simpa [List.append_assoc] using hJr
  by_cases k9 : k = 9
  · subst k9
    have hBT : bytesT (.mk 9 n s l0) = b8 9 :: ([] ++ ([] ++ bytesL l0)) := by rw [bytesT_mk]; simp [midB, hasN, lenB, hasB]
    obtain ⟨P0, hP0⟩ : ∃ P, pre ++ [b8 9] = P := ⟨_, rfl⟩
    have HP0 := Lib.hid hP0
    rw [hP0] at hJ2
    clear hP0
    gi_wp2
    gi_loopw [69] (fun i wr => ∃ j : Nat, j ≤ l0.length ∧ i = .int .i64 (j : Int) ∧ J (P0 ++ bytesL (l0.take j)) wr ∧ Kb b W2 wr) (fun i _ => l0.length - (intOf i).toNat)
    case atStart => exact ⟨0, Nat.zero_le _, rfl, by simpa [bytesL_nil] using hJ2, Kb.refl _ _⟩
    case round =>
      obtain ⟨j, hj, rfl, hJr, hkr⟩ := hrel
      have hvr := hkr.2.1 hv2
      obtain ⟨hbyr, hnyr⟩ := hkr.blk hny2 hby2
      have pyr : wr.cell? ⟨W.heap.size + 1, 0, none⟩ = some (.func (.yield l) #[] #[]) := hbyr.cell 0
      clear p0 p1 p2 p3 py
      by_cases hlt : j < l0.length
      · have HLT := Lib.hid hlt
        obtain ⟨u, hu⟩ : ∃ u, l0[j]? = some u := ⟨_, List.getElem?_eq_getElem hlt⟩
        have hst := bytesL_take_succ hu
        have hlen : (bytesL (l0.take (j + 1))).length ≤ (bytesL l0).length := by
          have := bytesL_append (l0.take (j + 1)) (l0.drop (j + 1))
          rw [List.take_append_drop] at this
          rw [this, List.length_append]; omega
        obtain ⟨bb, o, A5, c5, rfl, hb5, d0, d1, d2, d3, ok5, hta5⟩ := (hkr.ts hl2).at_ hu
        obtain ⟨W5, hW5⟩ : ∃ W5, wr.alloc (.cells #[.int .i64 u.k, .int .i64 u.n, .string u.s, .slice A5 u.l.length c5] 35) = W5 := ⟨_, rfl⟩
        have hk5 : Kb b wr W5 := by rw [← hW5]; exact (Kb.refl b wr).alloc hvr _
        have hJ5 : J (P0 ++ bytesL (l0.take j)) W5 := by rw [← hW5]; exact abides_alloc hJ _ hJr
        have hv5 := hk5.2.1 hvr
        have hB5 : Blk W5 wr.heap.size 35 #[.int .i64 u.k, .int .i64 u.n, .string u.s, .slice A5 u.l.length c5] := by rw [← hW5]; exact Blk.new _ _ _
        obtain ⟨e0, e1, e2, e3, _, _, _, _⟩ := hB5.four
        obtain ⟨hby5, hny5⟩ := hk5.blk hnyr hbyr
        have py5 : W5.cell? ⟨W.heap.size + 1, 0, none⟩ = some (.func (.yield l) #[] #[]) := hby5.cell 0
        have hz5 := hk5.1
        have hzr := hkr.1
        have hzi := hK2.1
        have hic := ih u (List.mem_of_getElem? hu) (m - 1) _ (P0 ++ bytesL (l0.take j)) W5 (by omega) hv5 (hk5.ta (TAt.of ok5 hta5)) hJ5 (by
          have h1 : (bytesL (l0.take (j + 1))).length = (bytesL (l0.take j)).length + (bytesT u).length := by rw [hst, List.length_append]
          have h2 := congrArg List.length HP0.out
          rw [hBT] at hN
          simp [le8_len] at hN h1 h2 ⊢
          omega)
        unfold Post at hic
        rw [List.append_assoc, ← hst] at hic
        unfold tv at hic
        gi_wp2
        refine ⟨trivial, fun h => (by cases h), hic.mono ?_⟩
        clear hic
        rintro e W6 (⟨rfl, hJ6, hk6, hvv⟩ | ⟨rfl, q, ⟨r, hq⟩, hJx6⟩)
        · gi_wp2
          go_roundw
          case rel => exact ⟨j + 1, HLT.out, by go_num, hJ6, (hkr.trans hk5).trans hk6⟩
          case measure =>
            have := HLT.out
            simp [intOf]; omega
        · gi_wp2
          go_ret
          refine .inr ⟨rfl, b8 9 :: (([] : List B8) ++ bytesL (l0.take j)) ++ q, ⟨r ++ bytesL (l0.drop (j + 1)), ?_⟩, ?_⟩
          · rw [hBT]
            have h1 := bytesL_append (l0.take (j + 1)) (l0.drop (j + 1))
            rw [List.take_append_drop, hst, ← hq] at h1
            rw [h1]
            simp [List.append_assoc]
          · have := HP0.out
            rw [← this] at hJx6
            simpa [List.append_assoc] using hJx6
      · obtain rfl : j = l0.length := by omega
        rw [List.take_length] at hJr
        gi_wp2
        go_ret
        refine .inl ⟨rfl, ?_, hK2.trans hkr, hvr⟩
        rw [hBT]
        have := HP0.out
        rw [← this] at hJr
        simpa [List.append_assoc] using hJr
  by_cases k2 : k = 2
  · subst k2
    have hBT : bytesT (.mk 2 n s l0) = b8 2 :: ((b8 (s.size : Int) :: strB s) ++ ([] ++ [])) := by rw [bytesT_mk]; simp [midB, hasN, lenB, hasB]
    obtain ⟨fn2, tm2, as2, bo2, hy2, hR2⟩ := hY (m - 1) (pre ++ [b8 2]) (b8 (s.size : Int)) W2 hJ2 (by rw [hBT] at hN; simp at hN ⊢; omega)
    rw [b8_mod] at hy2
    have HR2 := Lib.hid hR2
    clear hR2
    gi_wp2
    refine ⟨fun h => (by cases h), HR2.out.mono ?_⟩
    rintro e W3 (⟨rfl, hJ3, hk3⟩ | ⟨rfl, hJx3⟩)
    case inr =>
      gi_wp2
      go_ret
      exact .inr ⟨rfl, [b8 2, b8 (s.size : Int)], ⟨strB s, by rw [hBT]; simp⟩, by simpa [List.append_assoc] using hJx3⟩
    clear hy2 HR2
    have hv3 : Vb b W3 := hk3.2.1 hv2
    obtain ⟨hbt3, hnt3⟩ := hk3.blk hnt2 hbt2
    obtain ⟨hby3, hny3⟩ := hk3.blk hny2 hby2
    have hl3 := hk3.ts hl2
    have hK3 : Kb b W W3 := hK2.trans hk3
    clear p0 p1 p2 p3 py
    obtain ⟨p0, p1, p2, p3, _, _, _, _⟩ := hbt3.four
    have py : W3.cell? ⟨W.heap.size + 1, 0, none⟩ = some (.func (.yield l) #[] #[]) := hby3.cell 0
    obtain ⟨cap, ob, W4, hcv, hW4, hcells⟩ := conv_str s W3
    have hk4 : Kb b W3 W4 := by rw [hW4]; exact (Kb.refl b W3).drew.alloc hv3.drew _
    have hJ4 : J (pre ++ [b8 2] ++ [b8 (s.size : Int)]) W4 := by rw [hW4]; exact abides_alloc hJ _ (abides_drew hJ hJ3)
    have hnr : ¬ Rb b W4 W3.heap.size := by rw [hW4]; exact hv3.drew.new _
    clear hW4
    have hv4 := hk4.2.1 hv3
    obtain ⟨hby4, hny4⟩ := hk4.blk hny3 hby3
    obtain ⟨hbt4, hnt4⟩ := hk4.blk hnt3 hbt3
    have hK4 : Kb b W W4 := hK3.trans hk4
    have hsl : (strB s).length = s.size := by simp [strB]
    have hss : s.size < 9223372036854775808 := by have := ok.ws; simp [maxLen] at this; omega
    obtain ⟨P0, hP0⟩ : ∃ P, pre ++ [b8 2] ++ [b8 (s.size : Int)] = P := ⟨_, rfl⟩
    have HP0 := Lib.hid hP0
    rw [hP0] at hJ4
    clear hP0
    gi_wp2
    gi_loopw [43] (fun i wr => ∃ j : Nat, j ≤ s.size ∧ i = .int .i64 (j : Int) ∧ J (P0 ++ (strB s).take j) wr ∧ Kb b W4 wr) (fun i _ => s.size - (intOf i).toNat)
    case atStart => exact ⟨0, Nat.zero_le _, rfl, by simpa using hJ4, Kb.refl _ _⟩
    case round =>
      obtain ⟨j, hj, rfl, hJr, hkr⟩ := hrel
      have hvr := hkr.2.1 hv4
      obtain ⟨hbyr, hnyr⟩ := hkr.blk hny4 hby4
      have pyr : wr.cell? ⟨W.heap.size + 1, 0, none⟩ = some (.func (.yield l) #[] #[]) := hbyr.cell 0
      clear p0 p1 p2 p3 py
      obtain ⟨hbtr, hntr⟩ := hkr.blk hnt4 hbt4
      obtain ⟨p0, p1, p2, p3, _, _, _, _⟩ := hbtr.four
      by_cases hlt : j < s.size
      · have HLT := Lib.hid hlt
        obtain ⟨cc, hcc⟩ : ∃ c, s.data.toList[j]? = some c := ⟨_, List.getElem?_eq_getElem (by simpa using hlt)⟩
        have hst : (strB s).take (j + 1) = (strB s).take j ++ [b8 (cc.toNat : Int)] := by
          rw [List.take_add_one]
          have : (strB s)[j]? = some (b8 (cc.toNat : Int)) := by unfold strB; rw [List.getElem?_map, hcc]; rfl
          rw [this]; rfl
        have hcell := (hkr.cell (p := ⟨W3.heap.size, j, none⟩) hnr (hcells j cc hcc)).1
        obtain ⟨fn5, tm5, as5, bo5, hy5, hR5⟩ := hY (m - 1) (P0 ++ (strB s).take j) (b8 (cc.toNat : Int)) wr hJr (by
          have h2 := congrArg List.length HP0.out
          rw [hBT] at hN
          simp [hsl] at hN h2 ⊢
          omega)
        rw [b8_byte] at hy5
        rw [List.append_assoc, ← hst] at hR5
        have HR5 := Lib.hid hR5
        clear hR5
        gi_wp2
        refine ⟨fun h => (by cases h), HR5.out.mono ?_⟩
        rintro e W6 (⟨rfl, hJ6, hk6⟩ | ⟨rfl, hJx6⟩)
        · gi_wp2
          go_roundw
          case rel => exact ⟨j + 1, HLT.out, by go_num, hJ6, hkr.trans hk6⟩
          case measure =>
            have := HLT.out
            simp [intOf]; omega
        · gi_wp2
          go_ret
          refine .inr ⟨rfl, b8 2 :: b8 (s.size : Int) :: (strB s).take (j + 1), ⟨(strB s).drop (j + 1), ?_⟩, ?_⟩
          · rw [hBT]; simp
          · have := HP0.out
            rw [← this] at hJx6
            simpa [List.append_assoc] using hJx6
      · obtain rfl : j = s.size := by omega
        rw [List.take_of_length_le (by omega)] at hJr
        gi_wp2
        go_ret
        refine .inl ⟨rfl, ?_, hK4.trans hkr, hvr⟩
        rw [hBT]
        have := HP0.out
        rw [← this] at hJr
        simpa [List.append_assoc] using hJr
  have hBT : bytesT (.mk k n s l0) = b8 k :: ([] ++ ([] ++ [])) := by rw [bytesT_mk]; simp [midB, hasN, lenB, hasB, k1, k2, k3, k4, k5, k6, k7, k9]
  have z1 : (k == 1) = false := beq_eq_false_iff_ne.2 k1
  have d1 : decide (k = 1) = false := decide_eq_false k1
  have z2 : (k == 2) = false := beq_eq_false_iff_ne.2 k2
  have d2 : decide (k = 2) = false := decide_eq_false k2
  have z3 : (k == 3) = false := beq_eq_false_iff_ne.2 k3
  have d3 : decide (k = 3) = false := decide_eq_false k3
  have z4 : (k == 4) = false := beq_eq_false_iff_ne.2 k4
  have d4 : decide (k = 4) = false := decide_eq_false k4
  have z5 : (k == 5) = false := beq_eq_false_iff_ne.2 k5
  have d5 : decide (k = 5) = false := decide_eq_false k5
  have z6 : (k == 6) = false := beq_eq_false_iff_ne.2 k6
  have d6 : decide (k = 6) = false := decide_eq_false k6
  have z7 : (k == 7) = false := beq_eq_false_iff_ne.2 k7
  have d7 : decide (k = 7) = false := decide_eq_false k7
  have z9 : (k == 9) = false := beq_eq_false_iff_ne.2 k9
  have d9 : decide (k = 9) = false := decide_eq_false k9
  gi_wp2
  go_ret
  exact .inl ⟨rfl, by rw [hBT]; simpa [List.append_assoc] using hJ2, hK2, hv2⟩
end Go.Proofs.Ytbpdaoedmjpdpaa.Hs
