/- stand, by its contract: all items stand where they should, and no others. -/
import Derived.Test.YtjipncpplpfobaaSettled
namespace Go.Proofs.Ytjipncpplpfobaa.Lb
open Go.RowKit K Hs
set_option linter.unusedVariables false
set_option linter.unusedSimpArgs false

theorem tot_take_succ {L : List (List It)} {k : Nat} {l : List It} (h : L[k]? = some l) : tot (L.take (k + 1)) = tot (L.take k) + l.length := by
  rw [List.take_add_one, h, tot_append]
  simp [tot]
theorem tot_take_le (L : List (List It)) (k : Nat) : tot (L.take k) ≤ tot L := by
  have h := tot_append (L.take k) (L.drop k)
  rw [List.take_append_drop] at h
  omega
set_option maxRecDepth 100000 in
set_option maxHeartbeats 16000000 in
theorem stand_any {X : Nat → Prop} {w0 W : World} {g least n : Nat} {L : List (List It)} {all : List It} (A : Option Addr) (c : Nat) (hn : all.length = n) (hS : St X w0 g least (n : Int) L W) (hI : Inv L all) (hl : n ≤ 60000) (hr : RdI W W.heap.size A all) :
    Calls Try.prog 26 #[.pointer (some ⟨g, 0, none⟩), .slice A n c] W fun e w' => e = .returned (.bool true) ∧ Below W.heap.size W w' := by
  obtain ⟨m, hm⟩ : ∃ m, L.length = m := ⟨_, rfl⟩
  have hm1 := hI.m1
  have hm2 := hI.m2
  have htot : tot L = n := hI.len.trans hn
  have HOK := Lib.hid (hn ▸ hI.ok (by omega))
  have HI := Lib.hid hI
  have HS := Lib.hid hS
  have HR := Lib.hid hr
  have HT := Lib.hid htot
  have HN := Lib.hid hn
  rw [hm] at hm1 hm2
  have HM := Lib.hid hm
  have HM2 := Lib.hid hm2
  clear hI hS hr htot hn hm hm2
  go_enter Try.func26, Try.ntmps26
  go_wp2_with fail
  go_loopw [5, 6] (fun s i wr => ∃ k : Nat, k ≤ m ∧ i = .int .i64 (k : Int) ∧ s = .int .i64 (tot (L.take k) : Int) ∧ Below W.heap.size W wr) (fun _ i _ => m - (intOf i).toNat)
  case atStart => exact ⟨0, Nat.zero_le _, rfl, rfl, Below.refl _ _⟩
  case round =>
    obtain ⟨k, hk, rfl, rfl, hb⟩ := hrel
    have HB := Lib.hid hb
    have HS1 := Lib.hid (HS.out.later hb)
    clear hb
    have HC := Lib.hid (show ∀ wx, St X w0 g least (n : Int) L wx → Calls Try.prog 17 #[.pointer (some ⟨g, 0, none⟩)] wx fun e w' => e = .returned (.int .i64 (m : Int)) ∧ wx = w' from fun wx h => by have := st_count h; rwa [HM.out] at this)
    by_cases hlt : k < m
    · obtain ⟨l, hkl⟩ : ∃ l, L[k]? = some l := ⟨_, List.getElem?_eq_getElem (by rw [HM.out]; exact hlt)⟩
      have HA := Lib.hid (st_at HS1.out HOK.out k l hkl)
      have htk := tot_take_succ hkl
      have htl := tot_take_le L (k + 1)
      have htn := HT.out
      have hin := HI.out.inb k l hkl
      rw [HM.out] at hin
      obtain ⟨s, hs⟩ : ∃ s, tot (L.take k) = s := ⟨_, rfl⟩
      rw [hs] at htk ⊢
      have hsl : s + l.length ≤ 60000 := by omega
      have HTK := Lib.hid htk
      have HIN := Lib.hid hin
      have hll : l.length ≤ 60000 := by omega
      have hkb : k ≤ 60000 := by have := HM2.out; omega
      clear htk htl htn hs hin hkl
      go_wp2_with (first
        | (go_at_call 17; refine (HC.out _ HS1.out).mono ?_; rintro e w' ⟨rfl, rfl⟩)
        | (go_at_call 13; refine HA.out.mono ?_; rintro e w2 ⟨v, rfl, hR2, hb2⟩; have HR2 := Lib.hid hR2; have HB2 := Lib.hid hb2; obtain ⟨A2, c2, rfl, hrd2⟩ := own_rdI hR2; have HRD2 := Lib.hid hrd2; clear hR2 hb2 hrd2)
        | fail)
      go_loopw [9] (fun i wr2 => ∃ j : Nat, j ≤ l.length ∧ i = .int .i64 (j : Int) ∧ Below w2.heap.size w2 wr2) (fun i _ => l.length - (intOf i).toNat)
      case atStart => exact ⟨0, Nat.zero_le _, rfl, Below.refl _ _⟩
      case round =>
        obtain ⟨j, hj, rfl, hb3⟩ := hrel
        have HB3 := Lib.hid hb3
        have HS3 := Lib.hid ((HS1.out.later HB2.out).later hb3)
        by_cases hjl : j < l.length
        · obtain ⟨⟨x, y⟩, hx⟩ : ∃ x, l[j]? = some x := ⟨_, List.getElem?_eq_getElem hjl⟩
          obtain ⟨gi, rfl, hgi, x0, x1⟩ := (HRD2.out.below hb3) j _ hx
          obtain ⟨hx3, hx4⟩ := HIN.out _ (List.mem_of_getElem? hx)
          simp only at hx3 hx4 x0 x1
          have HBK := Lib.hid (fun wx => bucket_any x (m : Int) wx hx3.1 hx3.2)
          rw [bk_int hm1 (by have := HM2.out; omega), bk_ok hm1 (by have := HM2.out; omega), hx4] at HBK
          have HC3 := Lib.hid (fun d => HC.out _ (HS3.out.drewN d))
          have hkk : ((k : Int) == (k : Int)) = true := by simp
          clear hb3 hx hx3 hx4
          go_wp2_with fail
          go_quiet (first
            | (go_at_call 17; exact quiet_left (HC3.out _))
            | (go_at_call 43; exact quiet_left (HBK.out _))
            | fail)
          go_wp2_with fail
          go_roundw
          case rel => exact ⟨j + 1, by omega, by go_num, bdN HB3.out⟩
          case measure => simp [intOf]; omega
        · obtain rfl : j = l.length := by omega
          have HBB := Lib.hid ((HB.out.trans (HB2.out.mono HB.out.size)).trans (hb3.mono (Nat.le_trans HB.out.size HB2.out.size)))
          clear hb3
          go_wp2_with fail
          go_roundw
          case rel => exact ⟨k + 1, by omega, by go_num, by rw [HTK.out]; go_num, HBB.out⟩
          case measure => simp [intOf]; omega
    · obtain rfl : k = m := by omega
      have htm : tot (L.take k) = n := by rw [← HM.out, List.take_length]; exact HT.out
      rw [htm]
      clear htm hlt
      go_wp2_with (first
        | (go_at_call 17; refine (HC.out _ HS1.out).mono ?_; rintro e w' ⟨rfl, rfl⟩)
        | fail)
      go_loopw [12] (fun i wr2 => ∃ j : Nat, j ≤ n ∧ i = .int .i64 (j : Int) ∧ Below W.heap.size W wr2) (fun i _ => n - (intOf i).toNat)
      case atStart => exact ⟨0, Nat.zero_le _, rfl, HB.out⟩
      case round =>
        obtain ⟨j, hj, rfl, hb2⟩ := hrel
        obtain ⟨wv, rfl⟩ : ∃ z, z = wr := ⟨_, rfl⟩
        have HB2 := Lib.hid hb2
        clear hb2
        by_cases hjn : j < n
        · obtain ⟨⟨x, y⟩, hx⟩ : ∃ x, all[j]? = some x := ⟨_, List.getElem?_eq_getElem (by rw [HN.out]; exact hjn)⟩
          have hrd := (HR.out.below HB2.out).more HB2.out.size
          obtain ⟨gi, rfl, hgi, x0, x1⟩ := hrd j _ hx
          simp only at x0 x1
          have HRD := Lib.hid hrd
          have HS2 := Lib.hid (HS.out.later HB2.out)
          have hxr : 0 ≤ x ∧ x ≤ 4294967295 := by
            have h1 : ((x, y) : It) ∈ fil x all := mem_fil.2 ⟨List.mem_of_getElem? hx, rfl⟩
            rw [← HI.out.same x] at h1
            have h2 := (mem_fil.1 h1).1
            obtain ⟨lb, hlb, hgb⟩ := HI.out.row x
            rw [hgb] at h2
            exact (HI.out.inb _ lb hlb _ h2).1
          have hfl : (fil x all).length ≤ n := by
            rw [← HN.out]; unfold fil
            exact List.length_filter_le _ _
          have HCH := Lib.hid (show ∀ wx, St X w0 g least (n : Int) L wx → Calls Try.prog 15 #[.pointer (some ⟨g, 0, none⟩), .int .u32 x] wx (RowPost wx (fil x all)) from fun wx h => by
            have := st_chain h HOK.out x hxr
            rwa [HI.out.same x] at this)
          have hjb : j ≤ 60000 := by omega
          clear hrd hxr
          go_wp2_with fail
          go_loopw [13, 14] (fun s i wr3 => ∃ (q n6 c6 : Nat) (A6 : Option Addr), q ≤ n ∧ i = .int .i64 (q : Int) ∧ s = .slice A6 n6 c6 ∧ n6 = (fil x (all.take q)).length ∧ Below wv.heap.size wv wr3 ∧ wr3.ownsRow wv.heap.size 54 2 (.slice A6 n6 c6) n6 (itL (fil x (all.take q)))) (fun _ i _ => n - (intOf i).toNat)
          case atStart => exact ⟨0, 0, 0, none, Nat.zero_le _, rfl, rfl, by simp [fil], Below.refl _ _, by simpa [fil, itL] using World.ownsRow_nil _ _ _ _⟩
          case round =>
            obtain ⟨q, n6, c6, A6, hq, rfl, rfl, hn6, hb3, hR6⟩ := hrel
            obtain ⟨wu, rfl⟩ : ∃ z, z = wr := ⟨_, rfl⟩
            have hqb : q ≤ 60000 := by omega
            by_cases hqn : q < n
            · obtain ⟨⟨x2, y2⟩, hx2⟩ : ∃ x, all[q]? = some x := ⟨_, List.getElem?_eq_getElem (by rw [HN.out]; exact hqn)⟩
              have hrd := HRD.out.below hb3
              obtain ⟨gi2, hgi2, _, z0, z1⟩ := hrd q _ hx2
              have hgg : gi = gi2 := by injection hgi2 with h; injection h
              subst hgg
              obtain ⟨gi3, hgi3, _, v0, v1⟩ := hrd j _ hx
              have hgg : gi = gi3 := by injection hgi3 with h; injection h
              subst hgg
              simp only at z0 z1 v0 v1
              have HB3 := Lib.hid hb3
              have HR6 := Lib.hid hR6
              clear hrd hgi2 hgi3 x0 x1 hb3 hR6
              have h64 : n6 ≤ 60000 := by
                have h1 := (fil_take x all q).length_le
                omega
              by_cases e : x2 = x
              · subst e
                have hst := fil_yes hx2 rfl
                subst hn6
                have HRUN := Lib.hid (fun (wx : World) (h : wx.ownsRow wv.heap.size 54 2 (.slice A6 (fil x2 (all.take q)).length c6) (fil x2 (all.take q)).length (itL (fil x2 (all.take q)))) (hz : wv.heap.size ≤ wx.heap.size) => item_run2 wv.heap.size wx A6 c6 (fil x2 (all.take q)) (x2, y2) h (by omega) hz)
                obtain ⟨F, hF⟩ : ∃ F, fil x2 (all.take q) = F := ⟨_, rfl⟩
                rw [hF] at hst HRUN HR6 h64 ⊢
                have HST := Lib.hid hst
                have hdd : decide (x2 = x2) = true := decide_eq_true rfl
                clear hst hF hx hx2
                go_wp2_with fail
                go_quiet (fail)
                obtain ⟨ga, ca, w4, hrun, hown, hgr, hat⟩ := HRUN.out (wu.drewN nq) HR6.out (HB3.out.size)
                have HRN := Lib.hid hrun
                have e1 : (F ++ [(x2, y2)]).length = F.length + 1 := by simp
                have HO := Lib.hid hown
                have HBN := Lib.hid (show Below wv.heap.size wv w4 from (((bdN HB3.out).alloc (Nat.le_trans HB3.out.size (Nat.le_refl _)) _).grown hgr (by simp; have := HB3.out.size; omega) (fun r hr => (HR6.out.lt r hr).1)))
                clear hrun hown hgr hat
                go_wp2_with (first
                  | (at_builtin; refine wpList_append_run (o := ⟨some 88, _, _, _, _, _⟩) (.tmp 82) (.tmp 87) 43 _ _ _ HRN.out rfl rfl (by simp [Act.eval, Act.put]) (by simp [Act.eval, Act.put]) ?_)
                  | fail)
                go_roundw
                case rel => exact ⟨q + 1, F.length + 1, ca, some ⟨ga, 0, none⟩, by omega, by go_num, rfl, by rw [HST.out, e1], HBN.out, by rw [HST.out, ← e1]; exact HO.out⟩
                case measure => simp [intOf]; omega
              · have hst := fil_no hx2 e
                rw [← hst] at hn6 HR6
                have hdd : decide (x2 = x) = false := decide_eq_false e
                have hdd2 : (x2 == x) = false := by simpa using e
                clear hst hx hx2
                go_wp2_with fail
                go_quiet (fail)
                go_wp2_with fail
                go_roundw
                case rel => exact ⟨q + 1, n6, c6, A6, by omega, by go_num, rfl, hn6, bdN HB3.out, HR6.out⟩
                case measure => simp [intOf]; omega
            · obtain rfl : q = n := by omega
              have htk : all.take q = all := by rw [← HN.out, List.take_length]
              rw [htk] at hn6 hR6
              subst hn6
              have HB3 := Lib.hid hb3
              have HS3 := Lib.hid (HS2.out.later hb3)
              obtain ⟨gi3, hgi3, _, v0, v1⟩ := (HRD.out.below hb3) j _ hx
              have hgg : gi = gi3 := by injection hgi3 with h; injection h
              subst hgg
              simp only at v0 v1
              have HR6 := Lib.hid (RdI.of_own hR6)
              clear hb3 hR6 hgi3 x0 x1 hx htk
              go_wp2_with fail
              refine (HCH.out _ HS3.out).mono ?_
              rintro e w5 ⟨v5, rfl, hR5, hb5⟩
              obtain ⟨A5, c5, rfl, hrd5⟩ := own_rdI hR5
              have HR5 := Lib.hid hrd5
              have HR7 := Lib.hid (HR6.out.below hb5)
              have HBX := Lib.hid ((HB2.out.trans (HB3.out.mono HB2.out.size)).trans (hb5.mono (Nat.le_trans HB2.out.size HB3.out.size)))
              clear hR5 hrd5 hb5
              go_wp2_with fail
              refine (sameItems_yes _ _ _ _ _ _ (fil x all) _ HR5.out HR7.out (by omega)).mono ?_
              rintro e w6 ⟨rfl, d, rfl⟩
              go_wp2_with fail
              go_roundw
              case rel => exact ⟨j + 1, by omega, by go_num, bdN HBX.out⟩
              case measure => simp [intOf]; omega
        · obtain rfl : j = n := by omega
          go_wp2_with fail
          go_ret
          exact ⟨ret1_b (by simp), HB2.out⟩
end Go.Proofs.Ytjipncpplpfobaa.Lb
