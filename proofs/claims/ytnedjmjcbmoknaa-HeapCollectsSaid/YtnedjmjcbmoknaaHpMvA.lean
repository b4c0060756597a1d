/- Collect's variables in memory. What a move adds; the appends, told ahead. Collect's move, by its contract. Collect's move of what was not met yet, by its contract. (Printed by mk_hpmvn.py.) move, by one contract; rows beside; the scan, plain. Collect's beginning, its told row, its end. Collect's rounds, plain: what a round of the scan has, what it leaves. -/
import Derived.Test.YtnedjmjcbmoknaaHpCol
import Derived.Test.YtnedjmjcbmoknaaHpParts
import Derived.Test.YtnedjmjcbmoknaaSteps
import Derived.Test.YtnedjmjcbmoknaaHpGetA
import Derived.Deep.RegionLaw
import Derived.Test.YtnedjmjcbmoknaaCloneU64
namespace Go.Proofs.Ytnedjmjcbmoknaa.Hp
open Go.RowKit K At Wd Fl
set_option linter.unusedVariables false
set_option linter.unusedSimpArgs false
def zw : DataW Unit := .lit (.int .u64 0)
/-- What a map of words says of each place. -/
def TMap (D : DataW Unit) (t : Int → Option Int) : Prop := Maps.Tidy D ∧ ∀ p : Int, Maps.has D (ky p) = (t p).isSome ∧ D.atKey (ky p) zw = .lit (.int .u64 ((t p).getD 0))
theorem TMap.nil : TMap (.map []) (fun _ => none) := ⟨Maps.tidy_empty, fun p => ⟨rfl, by simp [DataW.atKey, zw]⟩⟩
theorem TMap.put {D : DataW Unit} {t : Int → Option Int} (h : TMap D t) (p x : Int) : TMap (D.put (ky p) (.lit (.int .u64 x))) (fun q => if q = p then some x else t q) := by
  refine ⟨h.1.put (ky_lit p) _, fun q => ?_⟩
  by_cases e : q = p
  · subst e
    simp only [if_true]
    exact ⟨Maps.has_put_same h.1.isMap (ky_lit q) _, Maps.atKey_put_same h.1.isMap (ky_lit q) _ _⟩
  · simp only [if_neg e]
    obtain ⟨h1, h2⟩ := h.2 q
    exact ⟨by rw [Maps.has_put_other (ky_ne e)]; exact h1, by rw [Maps.atKey_put_other (ky_ne e)]; exact h2⟩
structure Cw (w0 : World) (G0 : Nat → Prop) (w : World) (F G : Nat → Prop) (B gh g : Nat) (L : List ByteArray) (lim : Int) (H : List It) (gt gn gp go : Nat) (Rw O : List Int) (kn : Int → Int) (tw : Int → Option Int) (bt bn : Nat) (vr vo : Value) (Nt Nn : Nat) (Dt Dn : DataW Unit) : Prop where
  hp : Hp w F gh g L lim H
  fb : ∀ k, F k → k < B
  gB : ∀ k, G k → B ≤ k ∧ k < w.heap.size
  bp : Blk w gp 22 #[.pointer (some ⟨gh, 0, none⟩)]
  np : ¬ G gp
  ggt : G gt
  gbt : G bt
  ggn : G gn
  gbn : G bn
  ggo : G go
  gvr : ∀ r, vr.ownBlock = some r → G r
  gvo : ∀ r, vo.ownBlock = some r → G r
  bt_ : Blk w gt 79 #[.map (some bt)]
  mt : w.ownsMap Try.prog 3 (plainElem Try.prog 31) bt Nt Dt
  ti : TMap Dt tw
  bn_ : Blk w gn 62 #[.pointer (some ⟨g, 0, none⟩), .int .i64 lim, vr, .map (some bn)]
  rr : w.ownsRow 0 31 1 vr Rw.length (u64s Rw)
  mn : w.ownsMap Try.prog 3 (plainElem Try.prog 3) bn Nn Dn
  hD : HMap Dn kn
  bo_ : Blk w go 39 #[vo]
  ro : w.ownsRow 0 31 1 vo O.length (u64s O)
  nb : bt ≠ bn
  nr : ∀ r, vr.ownBlock = some r → vo.ownBlock ≠ some r
  kp : Keep G0 w0 w
  gG : ∀ k, G k → G0 k ∨ w0.heap.size ≤ k
section
variable {w0 w w' : World} {G0 F G : Nat → Prop} {B gh g : Nat} {L : List ByteArray} {lim : Int} {H : List It} {gt gn gp go : Nat} {Rw O : List Int} {kn : Int → Int} {tw : Int → Option Int} {bt bn : Nat} {vr vo : Value} {Nt Nn : Nat} {Dt Dn : DataW Unit}
theorem Cw.keep {K : Nat → Prop} (h : Cw w0 G0 w F G B gh g L lim H gt gn gp go Rw O kn tw bt bn vr vo Nt Nn Dt Dn) (hk : Keep K w w') (hF : ∀ b, F b → ¬ K b) (hG : ∀ b, G b → ¬ K b) (hp : ¬ K gp) (h0 : ∀ b, b < w0.heap.size → K b → G0 b) : Cw w0 G0 w' F G B gh g L lim H gt gn gp go Rw O kn tw bt bn vr vo Nt Nn Dt Dn :=
  { h with
    hp := h.hp.keep hk hF
    gB := fun k hg => ⟨(h.gB k hg).1, Nat.lt_of_lt_of_le (h.gB k hg).2 hk.size⟩
    bp := h.bp.keep hk hp
    bt_ := h.bt_.keep hk (hG _ h.ggt)
    mt := ownsMap_keep h.mt hk (hG _ h.gbt)
    bn_ := h.bn_.keep hk (hG _ h.ggn)
    rr := ownsRow_keep h.rr hk (fun r hr => hG r (h.gvr r hr))
    mn := ownsMap_keep h.mn hk (hG _ h.gbn)
    bo_ := h.bo_.keep hk (hG _ h.ggo)
    ro := ownsRow_keep h.ro hk (fun r hr => hG r (h.gvo r hr))
    kp := h.kp.trans hk h0 }
theorem Cw.below (h : Cw w0 G0 w F G B gh g L lim H gt gn gp go Rw O kn tw bt bn vr vo Nt Nn Dt Dn) (hb : Below w.heap.size w w') : Cw w0 G0 w' F G B gh g L lim H gt gn gp go Rw O kn tw bt bn vr vo Nt Nn Dt Dn :=
  h.keep (K := fun _ => False) (Keep.new hb) (fun _ _ h => h) (fun _ _ h => h) (fun h => h) (fun _ _ h => h.elim)
theorem Cw.self (h : Cw w0 G0 w F G B gh g L lim H gt gn gp go Rw O kn tw bt bn vr vo Nt Nn Dt Dn) : Cw w G w F G B gh g L lim H gt gn gp go Rw O kn tw bt bn vr vo Nt Nn Dt Dn :=
  { h with kp := Keep.refl _ _, gG := fun k hk => .inl hk }
theorem Cw.rebase {G2 : Nat → Prop} (h : Cw w G w' F G2 B gh g L lim H gt gn gp go Rw O kn tw bt bn vr vo Nt Nn Dt Dn) (hk : Keep G0 w0 w) (hG : ∀ k, G k → G0 k ∨ w0.heap.size ≤ k) : Cw w0 G0 w' F G2 B gh g L lim H gt gn gp go Rw O kn tw bt bn vr vo Nt Nn Dt Dn :=
  { h with
    kp := hk.trans h.kp (fun i hi hg => by rcases hG i hg with h | h; exact h; omega)
    gG := fun k hk' => by
      rcases h.gG k hk' with h1 | h1
      · exact hG k h1
      · exact .inr (Nat.le_trans hk.size h1) }
/-- The cells that the code reads. -/
theorem Cw.cells (h : Cw w0 G0 w F G B gh g L lim H gt gn gp go Rw O kn tw bt bn vr vo Nt Nn Dt Dn) : ∃ Ar cr Ao co, vr = .slice Ar Rw.length cr ∧ vo = .slice Ao O.length co ∧ w.cell? ⟨gt, 0, none⟩ = some (.map (some bt)) ∧ w.cell? ⟨gn, 2, none⟩ = some (.slice Ar Rw.length cr) ∧ w.cell? ⟨gn, 3, none⟩ = some (.map (some bn)) ∧ w.cell? ⟨go, 0, none⟩ = some (.slice Ao O.length co) ∧ w.cell? ⟨gp, 0, none⟩ = some (.pointer (some ⟨gh, 0, none⟩)) ∧ w.frozen? ⟨gn, 2, none⟩ = false ∧ w.frozen? ⟨go, 0, none⟩ = false := by
  obtain ⟨Ar, cr, rfl, _, _⟩ := ownsRow_form h.rr
  obtain ⟨Ao, co, rfl, _, _⟩ := ownsRow_form h.ro
  exact ⟨Ar, cr, Ao, co, rfl, rfl, h.bt_.cell 0, h.bn_.cell 2, h.bn_.cell 3, h.bo_.cell 0, h.bp.cell 0, h.bn_.frozen 2, h.bo_.frozen 0⟩
theorem Cw.vr_ne (h : Cw w0 G0 w F G B gh g L lim H gt gn gp go Rw O kn tw bt bn vr vo Nt Nn Dt Dn) : ∀ r, vr.ownBlock = some r → ¬ F r ∧ r ≠ gp ∧ r ≠ gt ∧ r ≠ bt ∧ r ≠ gn ∧ r ≠ bn ∧ r ≠ go ∧ vo.ownBlock ≠ some r := fun r hr =>
  ⟨fun hf => by have := h.fb r hf; have := (h.gB r (h.gvr r hr)).1; omega, fun e => h.np (e ▸ h.gvr r hr), fun e => own_blk_ne h.rr h.bt_ (by decide) (by rw [hr, e]), fun e => map_row_ne h.mt h.rr (by rw [hr, e]), fun e => own_blk_ne h.rr h.bn_ (by decide) (by rw [hr, e]), fun e => map_row_ne h.mn h.rr (by rw [hr, e]), fun e => own_blk_ne h.rr h.bo_ (by decide) (by rw [hr, e]), h.nr r hr⟩
theorem Cw.vo_ne (h : Cw w0 G0 w F G B gh g L lim H gt gn gp go Rw O kn tw bt bn vr vo Nt Nn Dt Dn) : ∀ r, vo.ownBlock = some r → ¬ F r ∧ r ≠ gp ∧ r ≠ gt ∧ r ≠ bt ∧ r ≠ gn ∧ r ≠ bn ∧ r ≠ go ∧ vr.ownBlock ≠ some r := fun r hr =>
  ⟨fun hf => by have := h.fb r hf; have := (h.gB r (h.gvo r hr)).1; omega, fun e => h.np (e ▸ h.gvo r hr), fun e => own_blk_ne h.ro h.bt_ (by decide) (by rw [hr, e]), fun e => map_row_ne h.mt h.ro (by rw [hr, e]), fun e => own_blk_ne h.ro h.bn_ (by decide) (by rw [hr, e]), fun e => map_row_ne h.mn h.ro (by rw [hr, e]), fun e => own_blk_ne h.ro h.bo_ (by decide) (by rw [hr, e]), fun e => h.nr r e hr⟩
theorem Cw.ne_ (h : Cw w0 G0 w F G B gh g L lim H gt gn gp go Rw O kn tw bt bn vr vo Nt Nn Dt Dn) : gt ≠ gn ∧ gt ≠ go ∧ gn ≠ go ∧ bt ≠ gt ∧ bt ≠ gn ∧ bt ≠ go ∧ bn ≠ gt ∧ bn ≠ gn ∧ bn ≠ go :=
  ⟨h.bt_.ne_ h.bn_ (by decide), h.bt_.ne_ h.bo_ (by decide), h.bn_.ne_ h.bo_ (by decide), map_blk_ne h.mt h.bt_, map_blk_ne h.mt h.bn_, map_blk_ne h.mt h.bo_, map_blk_ne h.mn h.bt_, map_blk_ne h.mn h.bn_, map_blk_ne h.mn h.bo_⟩
/-- next.l grows. -/
theorem Cw.push (h : Cw w0 G0 w F G B gh g L lim H gt gn gp go Rw O kn tw bt bn vr vo Nt Nn Dt Dn) {w2 : World} {v' : Value} {Rw' : List Int} {n' : Nat} (hn : n' = Rw'.length) (hg : w.grownBy w2 vr.ownBlock) (hR : w2.ownsRow 0 31 1 v' n' (u64s Rw')) (hat : v'.ownBlock = vr.ownBlock ∨ v'.ownBlock = some w.heap.size) :
    Cw w0 G0 (w2.setCell ⟨gn, 2, none⟩ v') F (fun k => G k ∨ v'.ownBlock = some k) B gh g L lim H gt gn gp go Rw' O kn tw bt bn v' vo Nt Nn Dt Dn := by
  subst hn
  obtain ⟨n1, n2, n3, n4, n5, n6, n7, n8, n9⟩ := h.ne_
  have hv := h.vr_ne
  have hgp : gp < w.heap.size := h.bp.lt
  have hsz := hg.size
  have hk1 : Keep (fun b => vr.ownBlock = some b) w w2 := (Keep.refl _ w).grown hg (fun k hk => .inl hk)
  have hv' : ∀ r, v'.ownBlock = some r → (vr.ownBlock = some r ∨ r = w.heap.size) ∧ r < w2.heap.size := fun r hr => by
    refine ⟨?_, (hR.lt r hr).2⟩
    rcases hat with e | e
    · exact .inl (e ▸ hr)
    · rw [e] at hr; injection hr with hr; exact .inr hr.symm
  have hnew : ∀ r, v'.ownBlock = some r → r ≠ gn ∧ r ≠ go ∧ r ≠ gt ∧ r ≠ bt ∧ r ≠ bn ∧ r ≠ gp ∧ vo.ownBlock ≠ some r := fun r hr => by
    rcases (hv' r hr).1 with e | e
    · obtain ⟨a1, a2, a3, a4, a5, a6, a7, a8⟩ := hv r e
      exact ⟨a5, a7, a3, a4, a6, a2, a8⟩
    · subst e
      have q1 := (h.gB _ h.ggn).2; have q2 := (h.gB _ h.ggo).2; have q3 := (h.gB _ h.ggt).2; have q4 := (h.gB _ h.gbt).2; have q5 := (h.gB _ h.gbn).2
      exact ⟨by omega, by omega, by omega, by omega, by omega, by omega, fun e => by have := (h.gB _ (h.gvo _ e)).2; omega⟩
  have hk2 : Keep (fun b => b = gn) w2 (w2.setCell ⟨gn, 2, none⟩ v') := (Keep.refl (fun b => b = gn) w2).setCell (p := ⟨gn, 2, none⟩) (.inl rfl) _
  have hgnF : ∀ b, F b → b ≠ gn := fun b hb e => by have := h.fb b hb; have := (h.gB _ h.ggn).1; omega
  have e0 : (w2.setCell ⟨gn, 2, none⟩ v').heap.size = w2.heap.size := by simp [World.setCell]
  exact {
    hp := (h.hp.keep hk1 (fun b hb e => (hv b e).1 hb)).keep hk2 hgnF
    fb := h.fb
    gB := fun k hk => by
      rw [e0]
      rcases hk with hk | hk
      · exact ⟨(h.gB k hk).1, by have := (h.gB k hk).2; omega⟩
      · obtain ⟨q1, q2⟩ := hv' k hk
        rcases q1 with q1 | q1
        · exact ⟨(h.gB k (h.gvr k q1)).1, q2⟩
        · exact ⟨by have := (h.gB _ h.ggn); omega, q2⟩
    bp := (h.bp.keep hk1 (fun e => (hv _ e).2.1 rfl)).keep hk2 (fun e => h.np (e ▸ h.ggn))
    np := fun hk => by
      rcases hk with hk | hk
      · exact h.np hk
      · exact (hnew _ hk).2.2.2.2.2.1 rfl
    ggt := .inl h.ggt
    gbt := .inl h.gbt
    ggn := .inl h.ggn
    gbn := .inl h.gbn
    ggo := .inl h.ggo
    gvr := fun r hr => .inr hr
    gvo := fun r hr => .inl (h.gvo r hr)
    bt_ := (h.bt_.keep hk1 (fun e => (hv _ e).2.2.1 rfl)).keep hk2 n1
    mt := ownsMap_keep (ownsMap_keep h.mt hk1 (fun e => (hv _ e).2.2.2.1 rfl)) hk2 n5
    ti := h.ti
    bn_ := by
      have := (h.bn_.keep hk1 (fun e => (hv _ e).2.2.2.2.1 rfl)).set_ 2 v'
      simpa using this
    rr := ownsRow_keep hR hk2 (fun r hr => (hnew r hr).1)
    mn := ownsMap_keep (ownsMap_keep h.mn hk1 (fun e => (hv _ e).2.2.2.2.2.1 rfl)) hk2 n8
    hD := h.hD
    bo_ := (h.bo_.keep hk1 (fun e => (hv _ e).2.2.2.2.2.2.1 rfl)).keep hk2 (fun e => n3 e.symm)
    ro := ownsRow_keep (ownsRow_keep h.ro hk1 (fun r hr e => (hv r e).2.2.2.2.2.2.2 hr)) hk2 (fun r hr => (h.vo_ne r hr).2.2.2.2.1)
    nb := h.nb
    nr := fun r hr => (hnew r hr).2.2.2.2.2.2
    kp := (h.kp.grown hg (fun k hk => h.gG k (h.gvr k hk))).setCell (p := ⟨gn, 2, none⟩) (h.gG _ h.ggn) _
    gG := fun k hk => by
      rcases hk with hk | hk
      · exact h.gG k hk
      · rcases (hv' k hk).1 with q1 | q1
        · exact h.gG k (h.gvr k q1)
        · exact .inr (by have := h.kp.size; omega) }
/-- order grows. -/
theorem Cw.ord (h : Cw w0 G0 w F G B gh g L lim H gt gn gp go Rw O kn tw bt bn vr vo Nt Nn Dt Dn) {w2 : World} {v' : Value} {O' : List Int} {n' : Nat} (hn : n' = O'.length) (hg : w.grownBy w2 vo.ownBlock) (hR : w2.ownsRow 0 31 1 v' n' (u64s O')) (hat : v'.ownBlock = vo.ownBlock ∨ v'.ownBlock = some w.heap.size) :
    Cw w0 G0 (w2.setCell ⟨go, 0, none⟩ v') F (fun k => G k ∨ v'.ownBlock = some k) B gh g L lim H gt gn gp go Rw O' kn tw bt bn vr v' Nt Nn Dt Dn := by
  subst hn
  obtain ⟨n1, n2, n3, n4, n5, n6, n7, n8, n9⟩ := h.ne_
  have hv := h.vo_ne
  have hgp : gp < w.heap.size := h.bp.lt
  have hsz := hg.size
  have hk1 : Keep (fun b => vo.ownBlock = some b) w w2 := (Keep.refl _ w).grown hg (fun k hk => .inl hk)
  have hv' : ∀ r, v'.ownBlock = some r → (vo.ownBlock = some r ∨ r = w.heap.size) ∧ r < w2.heap.size := fun r hr => by
    refine ⟨?_, (hR.lt r hr).2⟩
    rcases hat with e | e
    · exact .inl (e ▸ hr)
    · rw [e] at hr; injection hr with hr; exact .inr hr.symm
  have hnew : ∀ r, v'.ownBlock = some r → r ≠ gn ∧ r ≠ go ∧ r ≠ gt ∧ r ≠ bt ∧ r ≠ bn ∧ r ≠ gp ∧ vr.ownBlock ≠ some r := fun r hr => by
    rcases (hv' r hr).1 with e | e
    · obtain ⟨a1, a2, a3, a4, a5, a6, a7, a8⟩ := hv r e
      exact ⟨a5, a7, a3, a4, a6, a2, a8⟩
    · subst e
      have q1 := (h.gB _ h.ggn).2; have q2 := (h.gB _ h.ggo).2; have q3 := (h.gB _ h.ggt).2; have q4 := (h.gB _ h.gbt).2; have q5 := (h.gB _ h.gbn).2
      exact ⟨by omega, by omega, by omega, by omega, by omega, by omega, fun e => by have := (h.gB _ (h.gvr _ e)).2; omega⟩
  have hk2 : Keep (fun b => b = go) w2 (w2.setCell ⟨go, 0, none⟩ v') := (Keep.refl (fun b => b = go) w2).setCell (p := ⟨go, 0, none⟩) (.inl rfl) _
  have hgnF : ∀ b, F b → b ≠ go := fun b hb e => by have := h.fb b hb; have := (h.gB _ h.ggo).1; omega
  have e0 : (w2.setCell ⟨go, 0, none⟩ v').heap.size = w2.heap.size := by simp [World.setCell]
  exact {
    hp := (h.hp.keep hk1 (fun b hb e => (hv b e).1 hb)).keep hk2 hgnF
    fb := h.fb
    gB := fun k hk => by
      rw [e0]
      rcases hk with hk | hk
      · exact ⟨(h.gB k hk).1, by have := (h.gB k hk).2; omega⟩
      · obtain ⟨q1, q2⟩ := hv' k hk
        rcases q1 with q1 | q1
        · exact ⟨(h.gB k (h.gvo k q1)).1, q2⟩
        · exact ⟨by have := (h.gB _ h.ggn); omega, q2⟩
    bp := (h.bp.keep hk1 (fun e => (hv _ e).2.1 rfl)).keep hk2 (fun e => h.np (e ▸ h.ggo))
    np := fun hk => by
      rcases hk with hk | hk
      · exact h.np hk
      · exact (hnew _ hk).2.2.2.2.2.1 rfl
    ggt := .inl h.ggt
    gbt := .inl h.gbt
    ggn := .inl h.ggn
    gbn := .inl h.gbn
    ggo := .inl h.ggo
    gvr := fun r hr => .inl (h.gvr r hr)
    gvo := fun r hr => .inr hr
    bt_ := (h.bt_.keep hk1 (fun e => (hv _ e).2.2.1 rfl)).keep hk2 n2
    mt := ownsMap_keep (ownsMap_keep h.mt hk1 (fun e => (hv _ e).2.2.2.1 rfl)) hk2 n6
    ti := h.ti
    bn_ := (h.bn_.keep hk1 (fun e => (hv _ e).2.2.2.2.1 rfl)).keep hk2 n3
    rr := ownsRow_keep (ownsRow_keep h.rr hk1 (fun r hr e => (hv r e).2.2.2.2.2.2.2 hr)) hk2 (fun r hr => (h.vr_ne r hr).2.2.2.2.2.2.1)
    mn := ownsMap_keep (ownsMap_keep h.mn hk1 (fun e => (hv _ e).2.2.2.2.2.1 rfl)) hk2 n9
    hD := h.hD
    bo_ := by
      have := (h.bo_.keep hk1 (fun e => (hv _ e).2.2.2.2.2.2.1 rfl)).set_ 0 v'
      simpa using this
    ro := ownsRow_keep hR hk2 (fun r hr => (hnew r hr).2.1)
    nb := h.nb
    nr := fun r hr e => (hnew r e).2.2.2.2.2.2 hr
    kp := (h.kp.grown hg (fun k hk => h.gG k (h.gvo k hk))).setCell (p := ⟨go, 0, none⟩) (h.gG _ h.ggo) _
    gG := fun k hk => by
      rcases hk with hk | hk
      · exact h.gG k hk
      · rcases (hv' k hk).1 with q1 | q1
        · exact h.gG k (h.gvo k q1)
        · exact .inr (by have := h.kp.size; omega) }
/-- next.is is told. -/
theorem Cw.is_ (h : Cw w0 G0 w F G B gh g L lim H gt gn gp go Rw O kn tw bt bn vr vo Nt Nn Dt Dn) (p k : Int) {w' : World} (hg : w.grownBy w' (some bn)) (hM : w'.ownsMap Try.prog 3 (plainElem Try.prog 3) bn (Nn + 1) (Dn.put (.int .i64 p) (.lit (.int .i64 k)))) :
    Cw w0 G0 w' F G B gh g L lim H gt gn gp go Rw O (fun q => if q = p then k else kn q) tw bt bn vr vo Nt (Nn + 1) Dt (Dn.put (.int .i64 p) (.lit (.int .i64 k))) := by
  obtain ⟨n1, n2, n3, n4, n5, n6, n7, n8, n9⟩ := h.ne_
  have hk : Keep (fun b => b = bn) w w' := (Keep.refl _ w).grown hg (fun k hk => by injection hk with hk; exact .inl hk.symm)
  have hbF : ∀ b, F b → b ≠ bn := fun b hb e => by have := h.fb b hb; have := (h.gB _ h.gbn).1; omega
  exact { h with
    hp := h.hp.keep hk hbF
    gB := fun k hg => ⟨(h.gB k hg).1, Nat.lt_of_lt_of_le (h.gB k hg).2 hk.size⟩
    bp := h.bp.keep hk (fun e => h.np (e ▸ h.gbn))
    bt_ := h.bt_.keep hk (fun e => n7 e.symm)
    mt := ownsMap_keep h.mt hk h.nb
    bn_ := h.bn_.keep hk (fun e => n8 e.symm)
    rr := ownsRow_keep h.rr hk (fun r hr => (h.vr_ne r hr).2.2.2.2.2.1)
    mn := hM
    hD := h.hD.put p k
    bo_ := h.bo_.keep hk (fun e => n9 e.symm)
    ro := ownsRow_keep h.ro hk (fun r hr => (h.vo_ne r hr).2.2.2.2.2.1)
    kp := h.kp.grown hg (fun k hk => by injection hk with hk; subst hk; exact h.gG _ h.gbn) }
/-- to is told. -/
theorem Cw.to_ (h : Cw w0 G0 w F G B gh g L lim H gt gn gp go Rw O kn tw bt bn vr vo Nt Nn Dt Dn) (p x : Int) {w' : World} (hg : w.grownBy w' (some bt)) (hM : w'.ownsMap Try.prog 3 (plainElem Try.prog 31) bt (Nt + 1) (Dt.put (.int .i64 p) (.lit (.int .u64 x)))) :
    Cw w0 G0 w' F G B gh g L lim H gt gn gp go Rw O kn (fun q => if q = p then some x else tw q) bt bn vr vo (Nt + 1) Nn (Dt.put (.int .i64 p) (.lit (.int .u64 x))) Dn := by
  obtain ⟨n1, n2, n3, n4, n5, n6, n7, n8, n9⟩ := h.ne_
  have hk : Keep (fun b => b = bt) w w' := (Keep.refl _ w).grown hg (fun k hk => by injection hk with hk; exact .inl hk.symm)
  have hbF : ∀ b, F b → b ≠ bt := fun b hb e => by have := h.fb b hb; have := (h.gB _ h.gbt).1; omega
  exact { h with
    hp := h.hp.keep hk hbF
    gB := fun k hg => ⟨(h.gB k hg).1, Nat.lt_of_lt_of_le (h.gB k hg).2 hk.size⟩
    bp := h.bp.keep hk (fun e => h.np (e ▸ h.gbt))
    bt_ := h.bt_.keep hk (fun e => n4 e.symm)
    mt := hM
    ti := h.ti.put p x
    bn_ := h.bn_.keep hk (fun e => n5 e.symm)
    rr := ownsRow_keep h.rr hk (fun r hr => (h.vr_ne r hr).2.2.2.1)
    mn := ownsMap_keep h.mn hk (fun e => h.nb e.symm)
    bo_ := h.bo_.keep hk (fun e => n6 e.symm)
    ro := ownsRow_keep h.ro hk (fun r hr => (h.vo_ne r hr).2.2.2.1)
    kp := h.kp.grown hg (fun k hk => by injection hk with hk; subst hk; exact h.gG _ h.gbt) }
/-- A word of next.l is turned. -/
theorem Cw.set_ (h : Cw w0 G0 w F G B gh g L lim H gt gn gp go Rw O kn tw bt bn vr vo Nt Nn Dt Dn) {i : Nat} (hi : i < Rw.length) (x : Int) : ∃ r c, vr = .slice (some ⟨r, 0, none⟩) Rw.length c ∧ w.frozen? ⟨r, i, none⟩ = false ∧ (∃ u, w.cell? ⟨r, i, none⟩ = some u) ∧ Cw w0 G0 (w.setCell ⟨r, i, none⟩ (.int .u64 x)) F G B gh g L lim H gt gn gp go (Rw.set i x) O kn tw bt bn vr vo Nt Nn Dt Dn := by
  obtain ⟨n1, n2, n3, n4, n5, n6, n7, n8, n9⟩ := h.ne_
  obtain ⟨r, c, rfl, _, _, _, _, hcell⟩ := ownsRow_at h.rr hi
  have hr : (Value.slice (some ⟨r, 0, none⟩) Rw.length c).ownBlock = some r := rfl
  obtain ⟨q1, q2⟩ := h.rr.stored i (.int .u64 x)
  have hv := h.vr_ne r hr
  have hk : Keep (fun b => b = r) w (w.setCell ⟨r, i, none⟩ (.int .u64 x)) := (Keep.refl (fun b => b = r) w).setCell (p := ⟨r, i, none⟩) (.inl rfl) _
  refine ⟨r, c, rfl, h.rr.frozenAt i, ⟨_, hcell i (.int .u64 Rw[i]) (by unfold u64s; rw [List.getElem?_map, List.getElem?_eq_getElem hi]; rfl)⟩, ?_⟩
  exact { h with
    hp := h.hp.keep hk (fun b hb e => hv.1 (e ▸ hb))
    gB := fun k hg => ⟨(h.gB k hg).1, Nat.lt_of_lt_of_le (h.gB k hg).2 hk.size⟩
    bp := h.bp.keep hk (fun e => hv.2.1 e.symm)
    bt_ := h.bt_.keep hk (fun e => hv.2.2.1 e.symm)
    mt := ownsMap_keep h.mt hk (fun e => hv.2.2.2.1 e.symm)
    bn_ := h.bn_.keep hk (fun e => hv.2.2.2.2.1 e.symm)
    rr := by
      rw [List.length_set]
      unfold u64s at q1 ⊢
      rwa [List.map_set]
    mn := ownsMap_keep h.mn hk (fun e => hv.2.2.2.2.2.1 e.symm)
    bo_ := h.bo_.keep hk (fun e => hv.2.2.2.2.2.2.1 e.symm)
    ro := ownsRow_keep h.ro hk (fun r' hr' e => hv.2.2.2.2.2.2.2 (e ▸ hr'))
    gvr := h.gvr
    nr := h.nr
    kp := h.kp.setCell (p := ⟨r, i, none⟩) (h.gG _ (h.gvr r hr)) _ }
end
def ords (H : List It) (ps : List Int) : List Int := ps.map fun p => packW (itm H p).k (off H ps p : Int)
def toW (H : List It) (ps : List Int) : Int → Option Int := fun p => if p ∈ ps then some (packW (itm H p).k (off H ps p : Int)) else none
structure Pl (H : List It) (ps : List Int) (m : Nat) : Prop where
  ps_ : Ps H ps
  le : m ≤ tot H ps
  done : ∀ u ∈ (R H ps).take m, boxd u = true → unN u ∈ ps
def row (H : List It) (ps : List Int) (m : Nat) : List Int := turn (reloc H ps) (R H ps) m
theorem row_len (H : List It) (ps : List Int) (m : Nat) : (row H ps m).length = tot H ps := turn_len _ _ _
section
variable {H : List It} {ps : List Int} {m : Nat} {p : Int} {x : It}
theorem row_grow (h : Pl H ps m) (hp : p ∉ ps) (hx : itAt H p = some x) : row H (ps ++ [p]) m = row H ps m ++ itW x := by
  unfold row
  rw [R_app, itm_some hx]
  exact turn_app h.le (fun u hu => reloc_app (h.done u hu))
theorem ords_grow (hp : p ∉ ps) (hx : itAt H p = some x) : ords H (ps ++ [p]) = ords H ps ++ [packW x.k (tot H ps : Int)] := by
  unfold ords
  rw [List.map_append, List.map_cons, List.map_nil, off_new hp, itm_some hx]
  congr 1
  exact List.map_congr_left (fun q hq => by rw [off_mem _ hq])
theorem kind_grow (hH : Pos H) (h : Ps H ps) (hx : itAt H p = some x) : kindAt (raw H (ps ++ [p])) = fun q => if q = (tot H ps : Int) then x.k else kindAt (raw H ps) q := by
  funext q
  unfold raw
  rw [List.map_append, List.map_cons, List.map_nil, itm_some hx]
  exact kindAt_snoc (raw_pos hH h) x q
theorem toW_grow (hp : p ∉ ps) (hx : itAt H p = some x) : toW H (ps ++ [p]) = fun q => if q = p then some (packW x.k (tot H ps : Int)) else toW H ps q := by
  funext q
  unfold toW
  by_cases e : q = p
  · subst e
    rw [if_pos (by simp), if_pos rfl, off_new hp, itm_some hx]
  · rw [if_neg e]
    by_cases hq : q ∈ ps
    · rw [if_pos (by simp [hq]), if_pos hq, off_mem _ hq]
    · rw [if_neg (by simp [hq, e]), if_neg hq]
theorem Pl.grow (h : Pl H ps m) (hp : p ∉ ps) (hx : itAt H p = some x) : Pl H (ps ++ [p]) m := by
  refine ⟨⟨List.nodup_append.2 ⟨h.ps_.nd, by simp, fun a ha b hb => by simp at hb; subst hb; exact fun e => hp (e ▸ ha)⟩, fun q hq => ?_⟩, by rw [tot_app]; have := h.le; omega, fun u hu hb => ?_⟩
  · rcases List.mem_append.1 hq with h1 | h1
    · exact h.ps_.at_ q h1
    · simp at h1; subst h1; exact ⟨x, hx⟩
  · rw [R_app, List.take_append_of_le_length (by rw [R_len]; exact h.le)] at hu
    exact List.mem_append.2 (.inl (h.done u hu hb))
theorem Pl.add_ {a : Nat} {u : Int} (h : Pl H ps m) (hm : may H a u = true) : Pl H (add ps u) m := by
  unfold add
  split
  · rename_i hb
    obtain ⟨x, hx, _⟩ := may_box hm hb.1
    exact h.grow hb.2 hx
  · exact h
theorem ords_len (H : List It) (ps : List Int) : (ords H ps).length = ps.length := by unfold ords; simp
end
/-- What a walk of moves keeps. -/
def Ms (w0 : World) (G0 : Nat → Prop) (w : World) (F G : Nat → Prop) (B gh g : Nat) (L : List ByteArray) (lim : Int) (H : List It) (gt gn gp go : Nat) (ps : List Int) (m : Nat) : Prop :=
  ∃ bt bn vr vo Nt Nn Dt Dn, Cw w0 G0 w F G B gh g L lim H gt gn gp go (row H ps m) (ords H ps) (kindAt (raw H ps)) (toW H ps) bt bn vr vo Nt Nn Dt Dn ∧ Nt ≤ ps.length ∧ Nn ≤ ps.length
section
variable {w0 w w' : World} {G0 F G : Nat → Prop} {B gh g : Nat} {L : List ByteArray} {lim : Int} {H : List It} {gt gn gp go : Nat} {Rw O : List Int} {kn : Int → Int} {tw : Int → Option Int} {bt bn : Nat} {vr vo : Value} {Nt Nn : Nat} {Dt Dn : DataW Unit}
theorem Cw.push_run (h : Cw w0 G0 w F G B gh g L lim H gt gn gp go Rw O kn tw bt bn vr vo Nt Nn Dt Dn) {wa : World} (hwa : Below w.heap.size w wa) {A : Option Addr} {m c : Nat} {X : List Int} (hr : Reads wa wa.heap.size 1 A m (u64s X)) (hl : Rw.length + m ≤ 1073741824) {Rw1 : List Int} (h1 : Rw ++ X = Rw1) :
    ∃ A' c' w2 G', (Builtin.append_ #[39, 39] 39 #[vr, .slice A m c]).run Try.prog wa = .ok (.slice A' Rw1.length c') w2 ∧ w2.cell? ⟨gn, 2, none⟩ = some vr ∧ w2.frozen? ⟨gn, 2, none⟩ = false ∧
      Cw w0 G0 (w2.setCell ⟨gn, 2, none⟩ (.slice A' Rw1.length c')) F G' B gh g L lim H gt gn gp go Rw1 O kn tw bt bn (.slice A' Rw1.length c') vo Nt Nn Dt Dn := by
  obtain ⟨i0, hi, hy0, hy1, hy2⟩ := info_parts infoW
  have hc := h.below hwa
  have hX : X.length = m := by have := hr.1; unfold u64s at this; simpa using this
  obtain ⟨v', w2, hrun, hR, hg, hat⟩ := run_append_any (P := Try.prog) wa 0 39 39 31 i0 _ 1 8 Try.underlying39 hi hy0 hy1 hy2 rfl (by decide) vr Rw.length (u64s Rw) hc.rr _ A m c (u64s X) hr (fun u hu => by
    unfold u64s at hu
    obtain ⟨x, _, rfl⟩ := List.mem_map.1 hu
    rfl) (by unfold maxLen; omega) (by omega) (Nat.zero_le _)
  have hn : Rw.length + m = Rw1.length := by rw [← h1, List.length_append, hX]
  rw [hn, show u64s Rw ++ u64s X = u64s Rw1 by rw [← h1]; unfold u64s; rw [List.map_append]] at hR
  obtain ⟨A', c', rfl, _, _⟩ := ownsRow_form hR
  have hb := hc.bn_.grown hg (fun e => own_blk_ne hc.rr hc.bn_ (by decide) e.symm)
  exact ⟨A', c', w2, _, hrun, hb.cell 2, hb.frozen 2, hc.push rfl hg hR hat⟩
theorem Cw.ord_run (h : Cw w0 G0 w F G B gh g L lim H gt gn gp go Rw O kn tw bt bn vr vo Nt Nn Dt Dn) {wa : World} (hwa : Below w.heap.size w wa) {A : Option Addr} {m c : Nat} {X : List Int} (hr : Reads wa wa.heap.size 1 A m (u64s X)) (hl : O.length + m ≤ 1073741824) {O1 : List Int} (h1 : O ++ X = O1) :
    ∃ A' c' w2 G', (Builtin.append_ #[39, 39] 39 #[vo, .slice A m c]).run Try.prog wa = .ok (.slice A' O1.length c') w2 ∧ w2.cell? ⟨go, 0, none⟩ = some vo ∧ w2.frozen? ⟨go, 0, none⟩ = false ∧
      Cw w0 G0 (w2.setCell ⟨go, 0, none⟩ (.slice A' O1.length c')) F G' B gh g L lim H gt gn gp go Rw O1 kn tw bt bn vr (.slice A' O1.length c') Nt Nn Dt Dn := by
  obtain ⟨i0, hi, hy0, hy1, hy2⟩ := info_parts infoW
  have hc := h.below hwa
  have hX : X.length = m := by have := hr.1; unfold u64s at this; simpa using this
  obtain ⟨v', w2, hrun, hR, hg, hat⟩ := run_append_any (P := Try.prog) wa 0 39 39 31 i0 _ 1 8 Try.underlying39 hi hy0 hy1 hy2 rfl (by decide) vo O.length (u64s O) hc.ro _ A m c (u64s X) hr (fun u hu => by
    unfold u64s at hu
    obtain ⟨x, _, rfl⟩ := List.mem_map.1 hu
    rfl) (by unfold maxLen; omega) (by omega) (Nat.zero_le _)
  have hn : O.length + m = O1.length := by rw [← h1, List.length_append, hX]
  rw [hn, show u64s O ++ u64s X = u64s O1 by rw [← h1]; unfold u64s; rw [List.map_append]] at hR
  obtain ⟨A', c', rfl, _, _⟩ := ownsRow_form hR
  have hb := hc.bo_.grown hg (fun e => own_blk_ne hc.ro hc.bo_ (by decide) e.symm)
  exact ⟨A', c', w2, _, hrun, hb.cell 0, hb.frozen 0, hc.ord rfl hg hR hat⟩
theorem one_reads (w : World) (x : Int) : Reads (w.alloc (.cells #[.int .u64 x] 31)) (w.alloc (.cells #[.int .u64 x] 31)).heap.size 1 (some ⟨w.heap.size, 0, none⟩) 1 (u64s [x]) :=
  ⟨rfl, fun _ => ⟨_, rfl, by simp, fun j u hj => by
    cases j with
    | zero =>
      simp [u64s] at hj
      subst hj
      exact (Blk.new w 31 #[.int .u64 x]).cell 0
    | succ j => simp [u64s] at hj⟩⟩
end
theorem zeroW (w : World) : (zeroValue 31).run Try.prog w = .ok (.int .u64 0) w := by kernel_rfl
/-- What move leaves. -/
def MvPost (w : World) (G F : Nat → Prop) (B gh g : Nat) (L : List ByteArray) (lim : Int) (H : List It) (gt gn gp go : Nat) (ps : List Int) (m : Nat) (u : Int) (e : Ending) (w' : World) : Prop :=
  e = .returned (.int .u64 (reloc H (add ps u) u)) ∧ ∃ G', Ms w G w' F G' B gh g L lim H gt gn gp go (add ps u) m
set_option maxRecDepth 100000 in
set_option maxHeartbeats 800000 in
theorem move_no (w : World) (F G : Nat → Prop) (B gh g : Nat) (L : List ByteArray) (lim : Int) (H : List It) (gt gn gp go : Nat) (ps : List Int) (m : Nat) (u : Int) (h : Ms w G w F G B gh g L lim H gt gn gp go ps m) (hu : U64 u) (hb : boxd u = false) :
    Calls Try.prog 38 #[.int .u64 u, .pointer (some ⟨gt, 0, none⟩), .pointer (some ⟨gn, 0, none⟩), .pointer (some ⟨gp, 0, none⟩), .pointer (some ⟨go, 0, none⟩)] w (MvPost w G F B gh g L lim H gt gn gp go ps m u) := by
  have HB := Lib.hid (show MvPost w G F B gh g L lim H gt gn gp go ps m u (.returned (.int .u64 u)) w from by
    have e : add ps u = ps := by unfold add; rw [hb]; simp
    refine ⟨by rw [e, reloc_no hb], G, ?_⟩
    rw [e]; exact h)
  have HBOX := Lib.hid (fun w => hb ▸ boxed_any u hu.1 hu.2 w)
  clear h hb hu
  go_enter Try.func38, Try.ntmps38
  go_wp2_with (first | (go_at_call 35; refine (HBOX.out _).mono ?_; rintro e w2 ⟨rfl, h2⟩; obtain rfl := h2.symm) | fail)
  go_ret
  exact HB.out
set_option maxRecDepth 100000 in
set_option maxHeartbeats 800000 in
theorem move_old (w : World) (F G : Nat → Prop) (B gh g : Nat) (L : List ByteArray) (lim : Int) (H : List It) (gt gn gp go : Nat) (ps : List Int) (m : Nat) (u : Int) (h : Ms w G w F G B gh g L lim H gt gn gp go ps m) (hu : U64 u) (hb : boxd u = true) (hm : may H L.length u = true) (hin : unN u ∈ ps) :
    Calls Try.prog 38 #[.int .u64 u, .pointer (some ⟨gt, 0, none⟩), .pointer (some ⟨gn, 0, none⟩), .pointer (some ⟨gp, 0, none⟩), .pointer (some ⟨go, 0, none⟩)] w (MvPost w G F B gh g L lim H gt gn gp go ps m u) := by
  have eadd : add ps u = ps := by unfold add; rw [if_neg (fun h' => h'.2 hin)]
  obtain ⟨x, hx, hk⟩ := may_box hm hb
  have HPO := Lib.hid (show ∀ w', Ms w G w' F G B gh g L lim H gt gn gp go ps m → MvPost w G F B gh g L lim H gt gn gp go ps m u (.returned (.int .u64 (reloc H ps u))) w' from fun w' h' => by
    refine ⟨by rw [eadd], G, ?_⟩
    rw [eadd]; exact h')
  have hre : reloc H ps u = packW x.k (off H ps (unN u) : Int) := by unfold reloc; rw [if_pos hb, hk]
  obtain ⟨y, hy⟩ : ∃ y, reloc H ps u = y := ⟨_, rfl⟩
  obtain ⟨r1, r2, r3, r4, r5, r6⟩ := un_range hu
  have he := may_E hm
  obtain ⟨kk, hkk⟩ : ∃ kk, unK u = kk := ⟨_, rfl⟩
  obtain ⟨nn, hnn⟩ : ∃ nn, unN u = nn := ⟨_, rfl⟩
  have HUN := Lib.hid (fun w => unpack_as hu hkk hnn he w)
  have HBOX := Lib.hid (fun w => hb ▸ boxed_any u hu.1 hu.2 w)
  have HY := Lib.hid (show toW H ps nn = some y from by rw [← hnn, ← hy]; unfold toW; rw [if_pos hin, itm_some hx, hre])
  rw [hnn] at r2
  rw [hy] at HPO
  obtain ⟨bt, bn, vr, vo, Nt, Nn, Dt, Dn, hc, hN1, hN2⟩ := h
  have HC := Lib.hid hc
  have HN := Lib.hid (And.intro hN1 hN2)
  have hkey : keyOf Try.prog 3 (.int .i64 nn) = some (.int .i64 nn) := Go.Maps.keyOf_int_mk Try.underlying3 r2
  clear hc hN1 hN2 hy hre hk hx hin eadd hm hb hu he hkk hnn r1 r3 r4 r5 r6
  go_enter Try.func38, Try.ntmps38
  go_wp2_with (first | (go_at_call 35; refine (HBOX.out _).mono ?_; rintro e w2 ⟨rfl, h2⟩; obtain rfl := h2.symm) | fail)
  refine (HUN.out _).mono ?_
  rintro e w2 ⟨rfl, hb2⟩
  have hc2 := HC.out.below hb2
  have hM := hc2.mt
  have hc0 : w2.cell? ⟨gt, 0, none⟩ = some (.map (some bt)) := hc2.bt_.cell 0
  have hti := hc2.ti.2 nn
  rw [HY.out] at hti
  obtain ⟨hhas, hatk⟩ := hti
  have hhas' : Maps.has Dt (.int .i64 nn) = true := hhas
  have HAT := Lib.hid hatk
  have HC2 := Lib.hid hc2
  clear hb2 hc2 hatk hhas
  go_wp2_with (first
    | (at_lookup; refine wpList_lookup_own_ok_int _ rfl _ _ 79 rfl 3 31 .u64 law Try.underlying79 Try.underlying31 (zeroW _) bt Nt Dt rfl hM _ _ rfl hkey ?_; intro cx hat hwc
       obtain rfl : y = cx := by
         have := HAT.out.symm.trans hat
         simpa using this
       clear hat hwc)
    | fail)
  go_ret
  exact HPO.out _ ⟨bt, bn, vr, vo, Nt, Nn, Dt, Dn, HC2.out, HN.out.1, HN.out.2⟩
theorem hp_head {w : World} {F : Nat → Prop} {gh g : Nat} {L : List ByteArray} {lim : Int} {H : List It} (h : Hp w F gh g L lim H) {p : Nat} {x : It} (hat : itAt H (p : Int) = some x) (h9 : x.k ≠ 9) :
    ∃ rh ch hw, w.cell? ⟨gh, 2, none⟩ = some (.slice (some ⟨rh, 0, none⟩) (hW H).length ch) ∧ p < (hW H).length ∧ w.cell? ⟨rh, p, none⟩ = some (.int .u64 hw) ∧ itW x = [hw] ++ x.ws := by
  obtain ⟨hb, FT, v, bm, N, D, hq, _⟩ := h
  obtain ⟨A, c, rfl, hc1, hc2, c0, c1, c2, c3⟩ := hq.cells
  obtain ⟨s1, s2, s3⟩ := itAt_seg hat
  have hok := hb.wf.ok x (itAt_mem hat)
  have hpos := hok.pos
  obtain ⟨r, c', hv, k1, k2, k3, k4, k5⟩ := ownsRow_at hq.row (k := 0) (by omega)
  injection hv with e1 _ e2
  subst e1 e2
  obtain ⟨hw, hhd, _, _, _⟩ := head_facts hok h9
  have hx : itW x = [hw] ++ x.ws := by unfold itW; rw [hhd]
  rw [hx] at s3
  have h0 := s3 0 hw rfl
  rw [Int.toNat_natCast, Nat.add_zero] at h0
  exact ⟨r, c, hw, c2, by omega, k5 p _ (by unfold u64s; rw [List.getElem?_map, h0]; rfl), hx⟩
set_option maxRecDepth 100000 in
set_option maxHeartbeats 1600000 in
theorem move_cons (w : World) (F G : Nat → Prop) (B gh g : Nat) (L : List ByteArray) (lim : Int) (H : List It) (gt gn gp go : Nat) (ps : List Int) (m : Nat) (u : Int) (p : Nat) (x : It) (h : Ms w G w F G B gh g L lim H gt gn gp go ps m) (hpl : Pl H ps m) (hu : U64 u) (hb : boxd u = true) (he : unE u = 0) (hk : unK u = x.k) (hn : unN u = (p : Int)) (hx : itAt H (p : Int) = some x) (hin : (p : Int) ∉ ps) (h9 : x.k = 9) :
    Calls Try.prog 38 #[.int .u64 u, .pointer (some ⟨gt, 0, none⟩), .pointer (some ⟨gn, 0, none⟩), .pointer (some ⟨gp, 0, none⟩), .pointer (some ⟨go, 0, none⟩)] w (MvPost w G F B gh g L lim H gt gn gp go ps m u) := by
  obtain ⟨bt, bn, vr, vo, Nt, Nn, Dt, Dn, hc, hN1, hN2⟩ := h
  have hHB := hc.hp.1
  have hsum := tot_le (hpl.grow hin hx).ps_
  rw [tot_app, tot_one] at hsum
  have hlenx : lenI H (p : Int) = (itW x).length := by unfold lenI; rw [itm_some hx]
  rw [hlenx] at hsum
  have hcnt := len_le_tot hHB.wf.pos hpl.ps_
  have hlim := hHB.lim1
  have hhl := hHB.hl
  have eadd : add ps u = ps ++ [(p : Int)] := by unfold add; rw [if_pos ⟨hb, by rw [hn]; exact hin⟩, hn]
  have eR := row_grow hpl hin hx
  have eO := ords_grow hin hx
  have eK := kind_grow hHB.wf.pos hpl.ps_ hx
  have eT := toW_grow hin hx
  have hre : reloc H (add ps u) u = packW x.k (tot H ps : Int) := by
    rw [eadd]; unfold reloc; rw [if_pos hb, hk, hn, off_new hin]
  have hrl := row_len H ps m
  have hol := ords_len H ps
  obtain ⟨Rw, hRw⟩ : ∃ Rw, row H ps m = Rw := ⟨_, rfl⟩
  obtain ⟨O, hO⟩ : ∃ O, ords H ps = O := ⟨_, rfl⟩
  obtain ⟨kn, hkn⟩ : ∃ kn, kindAt (raw H ps) = kn := ⟨_, rfl⟩
  obtain ⟨tw, htw⟩ : ∃ tw, toW H ps = tw := ⟨_, rfl⟩
  have htn : tw (p : Int) = none := by rw [← htw]; unfold toW; rw [if_neg hin]
  rw [hRw] at hc eR hrl
  rw [hO] at hc eO hol
  rw [hkn] at hc eK
  rw [htw] at hc eT
  obtain ⟨y, hy⟩ : ∃ y, packW x.k (tot H ps : Int) = y := ⟨_, rfl⟩
  rw [hy] at eO eT hre
  rw [← hrl] at hy hsum eK
  have HPO := Lib.hid (show ∀ w' G' bt' bn' vr' vo' Nt' Nn' Dt' Dn', Cw w G w' F G' B gh g L lim H gt gn gp go (Rw ++ itW x) (O ++ [y]) (fun q => if q = (Rw.length : Int) then x.k else kn q) (fun q => if q = (p : Int) then some y else tw q) bt' bn' vr' vo' Nt' Nn' Dt' Dn' → Nt' ≤ ps.length + 1 → Nn' ≤ ps.length + 1 → MvPost w G F B gh g L lim H gt gn gp go ps m u (.returned (.int .u64 y)) w' from fun w' G' bt' bn' vr' vo' Nt' Nn' Dt' Dn' h1 h2 h3 => by
    refine ⟨by rw [hre], G', ?_⟩
    rw [eadd]
    refine ⟨bt', bn', vr', vo', Nt', Nn', Dt', Dn', ?_, by simpa using h2, by simpa using h3⟩
    rw [eR, eO, eK, eT]
    exact h1)
  have hok := hHB.wf.ok x (itAt_mem hx)
  have HPT := Lib.hid (fun (w' : World) (h : Hp w' F gh g L lim H) => parts_hp h hu hk (hn ▸ hx))
  have HHD := Lib.hid (fun (w' : World) (h : Hp w' F gh g L lim H) (h9 : x.k ≠ 9) => hp_head h hx h9)
  have HUN := Lib.hid (fun w => unpack_as hu hk hn he w)
  have HBOX := Lib.hid (fun w => hb ▸ boxed_any u hu.1 hu.2 w)
  have hiw := itW_len x
  obtain ⟨r1, r2, _⟩ := un_range hu
  rw [hk] at r1
  rw [hn] at r2
  have hp0 : (0 : Int) ≤ (p : Int) := by omega
  obtain ⟨n1, hn1⟩ : ∃ n1, x.ws.length = n1 := ⟨_, rfl⟩
  rw [hn1] at hiw
  have hrl0 : Rw.length ≤ 16777216 := by omega
  have hol0 : O.length ≤ 16777216 := by omega
  have hrn : Rw.length + (itW x).length ≤ 16777216 := by omega
  have wfl : (Lit.int .i64 (Rw.length : Int)).wf = true := WalkArith.wf_i64 (by omega)
  have HPK := Lib.hid (fun w => pack_any x.k (Rw.length : Int) r1 wfl w)
  rw [hy] at HPK
  have hiw1 : itW x = x.ws := by unfold itW hd; rw [if_neg (by omega), if_neg (by omega)]; rfl
  obtain ⟨k, hkk⟩ : ∃ k, (9 : Int) = k := ⟨_, rfl⟩
  rw [h9] at HUN r1 HPK HPO
  have HN1 := Lib.hid hn1; have HIW := Lib.hid hiw1; have HC := Lib.hid hc; have HTN := Lib.hid htn; have H9 := Lib.hid h9
  have HCT := Lib.hid (show Nt ≤ ps.length ∧ Nn ≤ ps.length ∧ ps.length ≤ 16777216 from ⟨hN1, hN2, by omega⟩)
  have hkey : keyOf Try.prog 3 (.int .i64 (p : Int)) = some (.int .i64 (p : Int)) := Go.Maps.keyOf_int_mk Try.underlying3 r2
  have hkeyL : keyOf Try.prog 3 (.int .i64 (Rw.length : Int)) = some (.int .i64 (Rw.length : Int)) := Go.Maps.keyOf_int_mk Try.underlying3 wfl
  have wfy : (Lit.int .u64 y).wf = true := by rw [← hy]; have := packW_range x.k (Rw.length : Int); exact WalkArith.wf_u64 (by omega)
  clear hc hHB hsum hlenx hcnt hlim hhl eadd eR eO eK eT hre hrl hol hRw hO hkn htw htn hy hok hiw hpl hu hb he hk hn hx hin h9 hN1 hN2 hkk hiw1 hn1
  go_enter Try.func38, Try.ntmps38
  go_wp2_with (first | (go_at_call 35; refine (HBOX.out _).mono ?_; rintro e w2 ⟨rfl, h2⟩; obtain rfl := h2.symm) | fail)
  refine (HUN.out _).mono ?_
  rintro e w2 ⟨rfl, hb2⟩
  have hc2 := HC.out.below hb2
  have hM := hc2.mt
  have hti := hc2.ti.2 (p : Int)
  rw [HTN.out] at hti
  have hhas' : Maps.has Dt (.int .i64 (p : Int)) = false := hti.1
  obtain ⟨Ar, cr, Ao, co, rfl, rfl, q1, q2, q3, q4, q5, f1, f2⟩ := hc2.cells
  have HC2 := Lib.hid hc2
  clear hb2 hc2 hti
  go_wp2_with (first
    | (at_lookup; refine wpList_lookup_own_ok_int _ rfl _ _ 79 rfl 3 31 .u64 law Try.underlying79 Try.underlying31 (zeroW _) bt Nt Dt rfl hM _ _ rfl hkey ?_; intro cx hat hwc; clear hat hwc)
    | fail)
  clear hM hhas'
  refine (HPT.out w2 HC2.out.hp).mono ?_
  rintro e w5 ⟨r, hFr, A', c', he, hb5, ha5, h05, hc5, hr5⟩
  rw [HN1.out] at he hr5
  subst he
  have hc5 := HC2.out.below hb5
  have hrd := hr5 w5 (fun j => hb5.cell (p := ⟨r, j, none⟩) (by show r < w2.heap.size; have := HC2.out.fb r hFr; have := (HC2.out.gB _ HC2.out.ggn); omega)) (by have := HC2.out.fb r hFr; have := hc5.gB _ hc5.ggn; omega)
  obtain ⟨Rw2, hRw2⟩ : ∃ Rw2, Rw ++ x.ws = Rw2 := ⟨_, rfl⟩
  obtain ⟨A2, c2, w6, G6, hrun6, s1, s2, hc6⟩ := hc5.push_run (wa := w5) (c := c') (Below.refl _ _) hrd (by have := HIW.out; have := HN1.out; rw [HIW.out] at hrn; omega) hRw2
  obtain ⟨_, _, _, _, hz1, _, p1, p2, p3, p4, p5, g1, g2⟩ := hc5.cells
  injection hz1 with e1 _ e2
  subst e1 e2
  have hM6 := hc6.mn
  have hm3 : (w6.setCell ⟨gn, 2, none⟩ (.slice A2 Rw2.length c2)).cell? ⟨gn, 3, none⟩ = some (.map (some bn)) := hc6.bn_.cell 3
  have HRUN6 := Lib.hid hrun6; have HC6 := Lib.hid hc6; have HRW2 := Lib.hid hRw2
  have hNn : Nn < maxLen := by have := HCT.out; unfold maxLen; omega
  have hgn6 := World.block_lt_of_cell? _ _ s1
  have hgn5 : gn < w5.heap.size := (hc5.gB _ hc5.ggn).2
  clear hb5 ha5 h05 hr5 hc5 hrd hrun6 hc6 hRw2 q1 q2 q3 q4 q5 f1 f2
  go_wp2_with (first
    | (at_builtin; refine wpList_append_run (o := ⟨some 61, _, _, _, _, _⟩) (.tmp 59) (.tmp 60) 39 _ _ _ HRUN6.out rfl rfl (by simp [Act.eval, Act.put]) (by simp [Act.eval, Act.put]) ?_)
    | (at_mapUpdate; refine wpList_mapUpdate_own _ rfl _ _ _ 60 rfl 3 3 law Try.underlying60 _ bn Nn Dn rfl hM6 hNn _ _ _ rfl rfl hkeyL _ [] (plainElem_int Try.underlying3 r1) ?_; intro w7 hM7 hg7
       have HC7 := Lib.hid (HC6.out.is_ (Rw.length : Int) 9 hg7 hM7)
       clear hM7 hg7)
    | fail)
  clear hM6 hm3 s1 s2 p1 p2 p3 p4 p5 g1 g2 hNn hgn6 hgn5
  refine (HPK.out w7).mono ?_
  rintro e w8 ⟨rfl, hb8⟩
  have hc8 := HC7.out.below hb8
  obtain ⟨_, _, _, _, hz1, hz2, q1, q2, q3, q4, q5, f1, f2⟩ := hc8.cells
  injection hz1 with e1 _ e2
  subst e1 e2
  injection hz2 with e1 _ e2
  subst e1 e2
  have hM8 := hc8.mt
  have hNt : Nt < maxLen := by have := HCT.out; unfold maxLen; omega
  have HC8 := Lib.hid hc8
  clear hb8 hc8
  go_wp2_with (first
    | (at_mapUpdate; refine wpList_mapUpdate_own _ rfl _ _ _ 79 rfl 3 31 law Try.underlying79 _ bt Nt Dt rfl hM8 hNt _ _ _ rfl rfl hkey _ [] (plainElem_int Try.underlying31 wfy) ?_; intro w9 hM9 hg9
       have hc9 := HC8.out.to_ (p : Int) y hg9 hM9
       obtain ⟨O1, hO1⟩ : ∃ O1, O ++ [y] = O1 := ⟨_, rfl⟩
       obtain ⟨A10, c10, w10, G10, hrun10, z1, z2, hc10⟩ := hc9.ord_run (wa := w9.alloc (.cells #[.int .u64 y] 31)) (c := 1) (ballocs (Below.refl _ _) _) (one_reads w9 y) (by omega) hO1
       have z3 := hc9.bo_.cell 0
       have z4 : go < w9.heap.size := (hc9.gB _ hc9.ggo).2
       have z5 := World.block_lt_of_cell? _ _ z1
       have HRUN10 := Lib.hid hrun10; have HC10 := Lib.hid hc10; have HO1 := Lib.hid hO1
       clear hM9 hg9 hc9 hrun10 hc10 hO1 hM8 q1 q2 q3 q4 q5 f1 f2)
    | (at_builtin; refine wpList_append_run (o := ⟨some 79, _, _, _, _, _⟩) (.tmp 76) (.tmp 78) 39 _ _ _ HRUN10.out rfl rfl (by simp [Act.eval, Act.put]) (by simp [Act.eval, Act.put]) ?_)
    | fail)
  go_ret
  have hpo := HPO.out
  have hrr : Rw ++ itW x = Rw2 := by rw [HIW.out]; exact HRW2.out
  rw [hrr, HO1.out] at hpo
  exact hpo _ _ _ _ _ _ _ _ _ _ HC10.out (by have := HCT.out; omega) (by have := HCT.out; omega)
set_option maxRecDepth 100000 in
set_option maxHeartbeats 1600000 in
theorem move_head (w : World) (F G : Nat → Prop) (B gh g : Nat) (L : List ByteArray) (lim : Int) (H : List It) (gt gn gp go : Nat) (ps : List Int) (m : Nat) (u : Int) (p : Nat) (x : It) (h : Ms w G w F G B gh g L lim H gt gn gp go ps m) (hpl : Pl H ps m) (hu : U64 u) (hb : boxd u = true) (he : unE u = 0) (hk : unK u = x.k) (hn : unN u = (p : Int)) (hx : itAt H (p : Int) = some x) (hin : (p : Int) ∉ ps) (h9 : x.k ≠ 9) :
    Calls Try.prog 38 #[.int .u64 u, .pointer (some ⟨gt, 0, none⟩), .pointer (some ⟨gn, 0, none⟩), .pointer (some ⟨gp, 0, none⟩), .pointer (some ⟨go, 0, none⟩)] w (MvPost w G F B gh g L lim H gt gn gp go ps m u) := by
  obtain ⟨bt, bn, vr, vo, Nt, Nn, Dt, Dn, hc, hN1, hN2⟩ := h
  have hHB := hc.hp.1
  have hsum := tot_le (hpl.grow hin hx).ps_
  rw [tot_app, tot_one] at hsum
  have hlenx : lenI H (p : Int) = (itW x).length := by unfold lenI; rw [itm_some hx]
  rw [hlenx] at hsum
  have hcnt := len_le_tot hHB.wf.pos hpl.ps_
  have hlim := hHB.lim1
  have hhl := hHB.hl
  have eadd : add ps u = ps ++ [(p : Int)] := by unfold add; rw [if_pos ⟨hb, by rw [hn]; exact hin⟩, hn]
  have eR := row_grow hpl hin hx
  have eO := ords_grow hin hx
  have eK := kind_grow hHB.wf.pos hpl.ps_ hx
  have eT := toW_grow hin hx
  have hre : reloc H (add ps u) u = packW x.k (tot H ps : Int) := by
    rw [eadd]; unfold reloc; rw [if_pos hb, hk, hn, off_new hin]
  have hrl := row_len H ps m
  have hol := ords_len H ps
  obtain ⟨Rw, hRw⟩ : ∃ Rw, row H ps m = Rw := ⟨_, rfl⟩
  obtain ⟨O, hO⟩ : ∃ O, ords H ps = O := ⟨_, rfl⟩
  obtain ⟨kn, hkn⟩ : ∃ kn, kindAt (raw H ps) = kn := ⟨_, rfl⟩
  obtain ⟨tw, htw⟩ : ∃ tw, toW H ps = tw := ⟨_, rfl⟩
  have htn : tw (p : Int) = none := by rw [← htw]; unfold toW; rw [if_neg hin]
  rw [hRw] at hc eR hrl
  rw [hO] at hc eO hol
  rw [hkn] at hc eK
  rw [htw] at hc eT
  obtain ⟨y, hy⟩ : ∃ y, packW x.k (tot H ps : Int) = y := ⟨_, rfl⟩
  rw [hy] at eO eT hre
  rw [← hrl] at hy hsum eK
  have HPO := Lib.hid (show ∀ w' G' bt' bn' vr' vo' Nt' Nn' Dt' Dn', Cw w G w' F G' B gh g L lim H gt gn gp go (Rw ++ itW x) (O ++ [y]) (fun q => if q = (Rw.length : Int) then x.k else kn q) (fun q => if q = (p : Int) then some y else tw q) bt' bn' vr' vo' Nt' Nn' Dt' Dn' → Nt' ≤ ps.length + 1 → Nn' ≤ ps.length + 1 → MvPost w G F B gh g L lim H gt gn gp go ps m u (.returned (.int .u64 y)) w' from fun w' G' bt' bn' vr' vo' Nt' Nn' Dt' Dn' h1 h2 h3 => by
    refine ⟨by rw [hre], G', ?_⟩
    rw [eadd]
    refine ⟨bt', bn', vr', vo', Nt', Nn', Dt', Dn', ?_, by simpa using h2, by simpa using h3⟩
    rw [eR, eO, eK, eT]
    exact h1)
  have hok := hHB.wf.ok x (itAt_mem hx)
  have HPT := Lib.hid (fun (w' : World) (h : Hp w' F gh g L lim H) => parts_hp h hu hk (hn ▸ hx))
  have HHD := Lib.hid (fun (w' : World) (h : Hp w' F gh g L lim H) (h9 : x.k ≠ 9) => hp_head h hx h9)
  have HUN := Lib.hid (fun w => unpack_as hu hk hn he w)
  have HBOX := Lib.hid (fun w => hb ▸ boxed_any u hu.1 hu.2 w)
  have hiw := itW_len x
  obtain ⟨r1, r2, _⟩ := un_range hu
  rw [hk] at r1
  rw [hn] at r2
  have hp0 : (0 : Int) ≤ (p : Int) := by omega
  obtain ⟨n1, hn1⟩ : ∃ n1, x.ws.length = n1 := ⟨_, rfl⟩
  rw [hn1] at hiw
  have hrl0 : Rw.length ≤ 16777216 := by omega
  have hol0 : O.length ≤ 16777216 := by omega
  have hrn : Rw.length + (itW x).length ≤ 16777216 := by omega
  have wfl : (Lit.int .i64 (Rw.length : Int)).wf = true := WalkArith.wf_i64 (by omega)
  have HPK := Lib.hid (fun w => pack_any x.k (Rw.length : Int) r1 wfl w)
  rw [hy] at HPK
  obtain ⟨k, hkk⟩ : ∃ k, x.k = k := ⟨_, rfl⟩
  have b9 : (k == 9) = false := by rw [← hkk]; simp [h9]
  have b9' : (k != 9) = true := by rw [← hkk]; simp [h9]
  have hiw1 : (itW x).length = 1 + n1 := by have h75 : x.k = 7 ∨ x.k = 5 := by have := hok.box; unfold boxK at this; omega
                                            rw [if_pos h75] at hiw; omega
  rw [hkk] at HUN r1 HPK HPO
  have HN1 := Lib.hid hn1; have HIW := Lib.hid hiw1; have HC := Lib.hid hc; have HTN := Lib.hid htn; have H9 := Lib.hid h9
  have HCT := Lib.hid (show Nt ≤ ps.length ∧ Nn ≤ ps.length ∧ ps.length ≤ 16777216 from ⟨hN1, hN2, by omega⟩)
  have hkey : keyOf Try.prog 3 (.int .i64 (p : Int)) = some (.int .i64 (p : Int)) := Go.Maps.keyOf_int_mk Try.underlying3 r2
  have hkeyL : keyOf Try.prog 3 (.int .i64 (Rw.length : Int)) = some (.int .i64 (Rw.length : Int)) := Go.Maps.keyOf_int_mk Try.underlying3 wfl
  have wfy : (Lit.int .u64 y).wf = true := by rw [← hy]; have := packW_range x.k (Rw.length : Int); exact WalkArith.wf_u64 (by omega)
  clear hc hHB hsum hlenx hcnt hlim hhl eadd eR eO eK eT hre hrl hol hRw hO hkn htw htn hy hok hiw hpl hu hb he hk hn hx hin h9 hN1 hN2 hkk hiw1 hn1
  go_enter Try.func38, Try.ntmps38
  go_wp2_with (first | (go_at_call 35; refine (HBOX.out _).mono ?_; rintro e w2 ⟨rfl, h2⟩; obtain rfl := h2.symm) | fail)
  refine (HUN.out _).mono ?_
  rintro e w2 ⟨rfl, hb2⟩
  have hc2 := HC.out.below hb2
  have hM := hc2.mt
  have hti := hc2.ti.2 (p : Int)
  rw [HTN.out] at hti
  have hhas' : Maps.has Dt (.int .i64 (p : Int)) = false := hti.1
  obtain ⟨Ar, cr, Ao, co, rfl, rfl, q1, q2, q3, q4, q5, f1, f2⟩ := hc2.cells
  have HC2 := Lib.hid hc2
  obtain ⟨rh, ch, hw, qh, hlt, qx, hix⟩ := HHD.out w2 hc2.hp H9.out
  have hpi : (p : Int) < ((hW H).length : Int) := by omega
  have HIX := Lib.hid hix
  obtain ⟨Rw1, hRw1⟩ : ∃ Rw1, Rw ++ [hw] = Rw1 := ⟨_, rfl⟩
  obtain ⟨A1, c1, w3, G3, hrun, s1, s2, hc3⟩ := hc2.push_run (wa := w2.drew.alloc (.cells #[.int .u64 hw] 31)) (c := 1) (ballocs (btodrew (Below.refl _ _)) _) (one_reads w2.drew hw) (by have := HIW.out; omega) hRw1
  have HRUN := Lib.hid hrun; have HC3 := Lib.hid hc3; have HRW1 := Lib.hid hRw1
  have hgn : gn < w2.heap.size := (hc2.gB _ hc2.ggn).2
  have hgn3 := World.block_lt_of_cell? _ _ s1
  clear hb2 hc2 hti hrun hc3 hRw1 hix hlt
  go_wp2_with (first
    | (at_lookup; refine wpList_lookup_own_ok_int _ rfl _ _ 79 rfl 3 31 .u64 law Try.underlying79 Try.underlying31 (zeroW _) bt Nt Dt rfl hM _ _ rfl hkey ?_; intro cx hat hwc; clear hat hwc)
    | fail)
  go_region_law (refine step_append_run (.tmp 41) (.tmp 49) 39 _ _ _ HRUN.out rfl rfl (by simp [Act.eval, Act.put]) (by simp [Act.eval, Act.put]) ?_)
  all_goals
    clear hM hhas'
    obtain ⟨w4, hw4⟩ : ∃ z, w3.setCell ⟨gn, 2, none⟩ (.slice A1 Rw1.length c1) = z := ⟨_, rfl⟩
    rw [hw4] at HC3 ⊢
    clear hw4 q1 q2 q3 q4 q5 f1 f2 s1 s2 qh qx hgn hgn3
    obtain ⟨_, _, _, _, hz1, _, q1, q2, q3, q4, q5, f1, f2⟩ := HC3.out.cells
    injection hz1 with e1 _ e2
    subst e1 e2
    go_wp2_with fail
    refine (HPT.out w4 HC3.out.hp).mono ?_
    rintro e w5 ⟨r, hFr, A', c', he, hb5, ha5, h05, hc5, hr5⟩
    rw [HN1.out] at he hr5
    subst he
    have hc5 := HC3.out.below hb5
    have hrd := hr5 w5 (fun j => hb5.cell (p := ⟨r, j, none⟩) (by show r < w4.heap.size; have := HC3.out.fb r hFr; have := (HC3.out.gB _ HC3.out.ggn); omega)) (by have := HC3.out.fb r hFr; have := hc5.gB _ hc5.ggn; omega)
    obtain ⟨Rw2, hRw2⟩ : ∃ Rw2, Rw1 ++ x.ws = Rw2 := ⟨_, rfl⟩
    obtain ⟨A2, c2, w6, G6, hrun6, s1, s2, hc6⟩ := hc5.push_run (wa := w5) (c := c') (Below.refl _ _) hrd (by have := HIW.out; have := HRW1.out; rw [← this]; simp only [List.length_append, List.length_cons, List.length_nil]; omega) hRw2
    obtain ⟨_, _, _, _, hz1, _, p1, p2, p3, p4, p5, g1, g2⟩ := hc5.cells
    injection hz1 with e1 _ e2
    subst e1 e2
    have hM6 := hc6.mn
    have hm3 : (w6.setCell ⟨gn, 2, none⟩ (.slice A2 Rw2.length c2)).cell? ⟨gn, 3, none⟩ = some (.map (some bn)) := hc6.bn_.cell 3
    have HRUN6 := Lib.hid hrun6; have HC6 := Lib.hid hc6; have HRW2 := Lib.hid hRw2
    have hNn : Nn < maxLen := by have := HCT.out; unfold maxLen; omega
    have hgn6 := World.block_lt_of_cell? _ _ s1
    have hgn5 : gn < w5.heap.size := (hc5.gB _ hc5.ggn).2
    clear hb5 ha5 h05 hr5 hc5 hrd hrun6 hc6 hRw2 q1 q2 q3 q4 q5 f1 f2
    go_wp2_with (first
      | (at_builtin; refine wpList_append_run (o := ⟨some 61, _, _, _, _, _⟩) (.tmp 59) (.tmp 60) 39 _ _ _ HRUN6.out rfl rfl (by simp [Act.eval, Act.put]) (by simp [Act.eval, Act.put]) ?_)
      | (at_mapUpdate; refine wpList_mapUpdate_own _ rfl _ _ _ 60 rfl 3 3 law Try.underlying60 _ bn Nn Dn rfl hM6 hNn _ _ _ rfl rfl hkeyL _ [] (plainElem_int Try.underlying3 r1) ?_; intro w7 hM7 hg7
         have HC7 := Lib.hid (HC6.out.is_ (Rw.length : Int) k hg7 hM7)
         clear hM7 hg7)
      | fail)
    clear hM6 hm3 s1 s2 p1 p2 p3 p4 p5 g1 g2 hNn hgn6 hgn5
    refine (HPK.out w7).mono ?_
    rintro e w8 ⟨rfl, hb8⟩
    have hc8 := HC7.out.below hb8
    obtain ⟨_, _, _, _, hz1, hz2, q1, q2, q3, q4, q5, f1, f2⟩ := hc8.cells
    injection hz1 with e1 _ e2
    subst e1 e2
    injection hz2 with e1 _ e2
    subst e1 e2
    have hM8 := hc8.mt
    have hNt : Nt < maxLen := by have := HCT.out; unfold maxLen; omega
    have HC8 := Lib.hid hc8
    clear hb8 hc8
    go_wp2_with (first
      | (at_mapUpdate; refine wpList_mapUpdate_own _ rfl _ _ _ 79 rfl 3 31 law Try.underlying79 _ bt Nt Dt rfl hM8 hNt _ _ _ rfl rfl hkey _ [] (plainElem_int Try.underlying31 wfy) ?_; intro w9 hM9 hg9
         have hc9 := HC8.out.to_ (p : Int) y hg9 hM9
         obtain ⟨O1, hO1⟩ : ∃ O1, O ++ [y] = O1 := ⟨_, rfl⟩
         obtain ⟨A10, c10, w10, G10, hrun10, z1, z2, hc10⟩ := hc9.ord_run (wa := w9.alloc (.cells #[.int .u64 y] 31)) (c := 1) (ballocs (Below.refl _ _) _) (one_reads w9 y) (by omega) hO1
         have z3 := hc9.bo_.cell 0
         have z4 : go < w9.heap.size := (hc9.gB _ hc9.ggo).2
         have z5 := World.block_lt_of_cell? _ _ z1
         have HRUN10 := Lib.hid hrun10; have HC10 := Lib.hid hc10; have HO1 := Lib.hid hO1
         clear hM9 hg9 hc9 hrun10 hc10 hO1 hM8 q1 q2 q3 q4 q5 f1 f2)
      | (at_builtin; refine wpList_append_run (o := ⟨some 79, _, _, _, _, _⟩) (.tmp 76) (.tmp 78) 39 _ _ _ HRUN10.out rfl rfl (by simp [Act.eval, Act.put]) (by simp [Act.eval, Act.put]) ?_)
      | fail)
    go_ret
    have hpo := HPO.out
    have hrr : Rw ++ itW x = Rw2 := by rw [HIX.out, ← List.append_assoc, HRW1.out]; exact HRW2.out
    rw [hrr, HO1.out] at hpo
    exact hpo _ _ _ _ _ _ _ _ _ _ HC10.out (by have := HCT.out; omega) (by have := HCT.out; omega)
theorem move_any (w : World) (F G : Nat → Prop) (B gh g : Nat) (L : List ByteArray) (lim : Int) (H : List It) (gt gn gp go : Nat) (ps : List Int) (m : Nat) (u : Int) (h : Ms w G w F G B gh g L lim H gt gn gp go ps m) (hpl : Pl H ps m) (hu : U64 u) (hm : may H L.length u = true) :
    Calls Try.prog 38 #[.int .u64 u, .pointer (some ⟨gt, 0, none⟩), .pointer (some ⟨gn, 0, none⟩), .pointer (some ⟨gp, 0, none⟩), .pointer (some ⟨go, 0, none⟩)] w (MvPost w G F B gh g L lim H gt gn gp go ps m u) := by
  by_cases hb : boxd u = true
  · by_cases hin : unN u ∈ ps
    · exact move_old w F G B gh g L lim H gt gn gp go ps m u h hu hb hm hin
    · obtain ⟨x, hx, hk⟩ := may_box hm hb
      obtain ⟨s1, _⟩ := itAt_seg hx
      obtain ⟨p, hp⟩ : ∃ p : Nat, unN u = (p : Int) := ⟨(unN u).toNat, by omega⟩
      rw [hp] at hx hin
      by_cases h9 : x.k = 9
      · exact move_cons w F G B gh g L lim H gt gn gp go ps m u p x h hpl hu hb (may_E hm) hk.symm hp hx hin h9
      · exact move_head w F G B gh g L lim H gt gn gp go ps m u p x h hpl hu hb (may_E hm) hk.symm hp hx hin h9
  · exact move_no w F G B gh g L lim H gt gn gp go ps m u h hu (by simpa using hb)
/-- A row beside what the moves own. -/
def Fo (w : World) (G : Nat → Prop) (B : Nat) (v : Value) (n : Nat) (xs : List Int) : Prop := w.ownsRow B 31 1 v n (u64s xs) ∧ ∀ r, v.ownBlock = some r → ¬ G r
theorem Fo.keep {w w' : World} {G G' : Nat → Prop} {B n : Nat} {v : Value} {xs : List Int} (h : Fo w G B v n xs) (hk : Keep G w w') (hG : ∀ k, G' k → G k ∨ w.heap.size ≤ k) : Fo w' G' B v n xs :=
  ⟨ownsRow_keep h.1 hk h.2, fun r hr hg => by
    rcases hG r hg with h1 | h1
    · exact h.2 r hr h1
    · have := (h.1.lt r hr).2; omega⟩
theorem Fo.below {w w' : World} {G : Nat → Prop} {B n : Nat} {v : Value} {xs : List Int} (h : Fo w G B v n xs) (hb : Below w.heap.size w w') : Fo w' G B v n xs :=
  ⟨ownsRow_keep h.1 (Keep.new (F := fun _ => False) hb) (fun _ _ h => h), h.2⟩
theorem Ms.cw {w0 w : World} {G0 F G : Nat → Prop} {B gh g : Nat} {L : List ByteArray} {lim : Int} {H : List It} {gt gn gp go m : Nat} {ps : List Int} (h : Ms w0 G0 w F G B gh g L lim H gt gn gp go ps m) : ∃ bt bn vr vo Nt Nn Dt Dn, Cw w0 G0 w F G B gh g L lim H gt gn gp go (row H ps m) (ords H ps) (kindAt (raw H ps)) (toW H ps) bt bn vr vo Nt Nn Dt Dn := by
  obtain ⟨bt, bn, vr, vo, Nt, Nn, Dt, Dn, hc, _⟩ := h
  exact ⟨bt, bn, vr, vo, Nt, Nn, Dt, Dn, hc⟩
section
variable {w0 w w' : World} {G0 F G G' : Nat → Prop} {B gh g : Nat} {L : List ByteArray} {lim : Int} {H : List It} {gt gn gp go m : Nat} {ps : List Int}
theorem Ms.below (h : Ms w0 G0 w F G B gh g L lim H gt gn gp go ps m) (hb : Below w.heap.size w w') : Ms w0 G0 w' F G B gh g L lim H gt gn gp go ps m := by
  obtain ⟨bt, bn, vr, vo, Nt, Nn, Dt, Dn, hc, h1⟩ := h
  exact ⟨bt, bn, vr, vo, Nt, Nn, Dt, Dn, hc.below hb, h1⟩
theorem Ms.self (h : Ms w0 G0 w F G B gh g L lim H gt gn gp go ps m) : Ms w G w F G B gh g L lim H gt gn gp go ps m := by
  obtain ⟨bt, bn, vr, vo, Nt, Nn, Dt, Dn, hc, h1⟩ := h
  exact ⟨bt, bn, vr, vo, Nt, Nn, Dt, Dn, hc.self, h1⟩
theorem Ms.rebase (h0 : Ms w0 G0 w F G B gh g L lim H gt gn gp go ps m) {ps' : List Int} {m' : Nat} (h : Ms w G w' F G' B gh g L lim H gt gn gp go ps' m') : Ms w0 G0 w' F G' B gh g L lim H gt gn gp go ps' m' := by
  obtain ⟨_, _, _, _, _, _, _, _, hc0⟩ := h0.cw
  obtain ⟨bt, bn, vr, vo, Nt, Nn, Dt, Dn, hc, h1⟩ := h
  exact ⟨bt, bn, vr, vo, Nt, Nn, Dt, Dn, hc.rebase hc0.kp hc0.gG, h1⟩
theorem Ms.kp (h : Ms w0 G0 w F G B gh g L lim H gt gn gp go ps m) : Keep G0 w0 w := by
  obtain ⟨_, _, _, _, _, _, _, _, hc⟩ := h.cw
  exact hc.kp
theorem Ms.gG (h : Ms w0 G0 w F G B gh g L lim H gt gn gp go ps m) : ∀ k, G k → G0 k ∨ w0.heap.size ≤ k := by
  obtain ⟨_, _, _, _, _, _, _, _, hc⟩ := h.cw
  exact hc.gG
theorem Ms.gB (h : Ms w0 G0 w F G B gh g L lim H gt gn gp go ps m) : ∀ k, G k → B ≤ k ∧ k < w.heap.size := by
  obtain ⟨_, _, _, _, _, _, _, _, hc⟩ := h.cw
  exact hc.gB
theorem Ms.hp (h : Ms w0 G0 w F G B gh g L lim H gt gn gp go ps m) : Hp w F gh g L lim H := by
  obtain ⟨_, _, _, _, _, _, _, _, hc⟩ := h.cw
  exact hc.hp
/-- The cells that Collect itself reads. -/
theorem Ms.cells (h : Ms w0 G0 w F G B gh g L lim H gt gn gp go ps m) : ∃ Ao co Ar cr, w.cell? ⟨go, 0, none⟩ = some (.slice Ao ps.length co) ∧ Reads w w.heap.size 1 Ao ps.length (u64s (ords H ps)) ∧ go < w.heap.size ∧
    w.cell? ⟨gn, 2, none⟩ = some (.slice Ar (tot H ps) cr) ∧ tot H ps ≤ cr ∧ cr ≤ maxLen ∧ gn < w.heap.size ∧ w.ownsRow 0 31 1 (.slice Ar (tot H ps) cr) (tot H ps) (u64s (row H ps m)) := by
  obtain ⟨bt, bn, vr, vo, Nt, Nn, Dt, Dn, hc⟩ := h.cw
  have hr := hc.rr
  have ho := hc.ro
  rw [row_len] at hr
  rw [ords_len] at ho
  obtain ⟨Ar, cr, rfl, k1, k2⟩ := ownsRow_form hr
  obtain ⟨Ao, co, rfl, _, _⟩ := ownsRow_form ho
  exact ⟨Ao, co, Ar, cr, hc.bo_.cell 0, Reads.of_own ho, hc.bo_.lt, hc.bn_.cell 2, k1, k2, hc.bn_.lt, hr⟩
end
/-! ### The scan, plain -/
section
variable {H : List It} {ps : List Int}
/-- Where an item's words lie among the moved ones. -/
theorem seg_R (hp : Pos H) (h : Ps H ps) {q : Int} (hq : q ∈ ps) : off H ps q + (itW (itm H q)).length ≤ tot H ps ∧ Seg (R H ps) (off H ps q) (itW (itm H q)) := by
  obtain ⟨_, s2, s3⟩ := itAt_seg (itAt_raw hp h hq)
  rw [Int.toNat_natCast] at s3
  exact ⟨by unfold tot; omega, s3⟩
theorem seg_row (hp : Pos H) (h : Ps H ps) {q : Int} (hq : q ∈ ps) {m : Nat} (hm : m ≤ off H ps q) : Seg (row H ps m) (off H ps q) (itW (itm H q)) := fun i v hv => by
  unfold row
  rw [turn_ge (by omega)]
  exact (seg_R hp h hq).2 i v hv
/-- Behind an item's head. -/
theorem row_head {m : Nat} {u : Int} (h : (R H ps)[m]? = some u) (hb : boxd u = false) : row H ps (m + 1) = row H ps m := turn_same h (reloc_no hb)
theorem Pl.skip {m : Nat} {u : Int} (h : Pl H ps m) (hu : (R H ps)[m]? = some u) (hb : boxd u = false) : Pl H ps (m + 1) := by
  have hl := (List.getElem?_eq_some_iff.1 hu).1
  refine ⟨h.ps_, by rw [R_len] at hl; omega, fun v hv hbv => ?_⟩
  rw [take_snoc_int hu] at hv
  rcases List.mem_append.1 hv with h1 | h1
  · exact h.done v h1 hbv
  · simp at h1; subst h1; rw [hb] at hbv; cases hbv
theorem Pl.next {a m : Nat} {u : Int} (h : Pl H ps m) (hm : may H a u = true) (hu : (R H (add ps u))[m]? = some u) : Pl H (add ps u) (m + 1) := by
  have h0 := h.add_ hm
  have hl := (List.getElem?_eq_some_iff.1 hu).1
  refine ⟨h0.ps_, by rw [R_len] at hl; omega, fun v hv hbv => ?_⟩
  rw [take_snoc_int hu] at hv
  rcases List.mem_append.1 hv with h1 | h1
  · exact h0.done v h1 hbv
  · simp at h1; subst h1; exact add_mem hbv
theorem row_next {m : Nat} {u : Int} (hu : (R H ps)[m]? = some u) : row H ps (m + 1) = (row H ps m).set m (reloc H ps u) := turn_succ hu
theorem R_ext {r : List Int} {m : Nat} {u : Int} (h : (R H ps)[m]? = some u) : (R H (ps ++ r))[m]? = some u := by
  unfold R raw at h ⊢
  rw [List.map_append, hW_append, List.getElem?_append_left (List.getElem?_eq_some_iff.1 h).1, h]
end
/-- A word is stored where it lay. -/
theorem Ms.store {w0 w : World} {G0 F G : Nat → Prop} {B gh g : Nat} {L : List ByteArray} {lim : Int} {H : List It} {gt gn gp go m : Nat} {ps : List Int} (h : Ms w0 G0 w F G B gh g L lim H gt gn gp go ps m) {u : Int} (hu : (R H ps)[m]? = some u) :
    ∃ r cr, w.cell? ⟨gn, 2, none⟩ = some (.slice (some ⟨r, 0, none⟩) (tot H ps) cr) ∧ m < tot H ps ∧ G r ∧ w.frozen? ⟨r, m, none⟩ = false ∧ (∃ z, w.cell? ⟨r, m, none⟩ = some z) ∧ Ms w0 G0 (w.setCell ⟨r, m, none⟩ (.int .u64 (reloc H ps u))) F G B gh g L lim H gt gn gp go ps (m + 1) := by
  obtain ⟨bt, bn, vr, vo, Nt, Nn, Dt, Dn, hc, h1⟩ := h
  have hl := (List.getElem?_eq_some_iff.1 hu).1
  rw [R_len] at hl
  obtain ⟨r, c, rfl, hf, hz, hc'⟩ := hc.set_ (i := m) (by rw [row_len]; exact hl) (reloc H ps u)
  rw [← row_next hu] at hc'
  have h2 := hc.bn_.cell 2
  rw [row_len] at h2
  exact ⟨r, c, h2, hl, hc.gvr r rfl, hf, hz, bt, bn, _, vo, Nt, Nn, Dt, Dn, hc', h1⟩
def none0 : Nat → Prop := fun _ => False
theorem ms_start {w wr : World} {F : Nat → Prop} {gh g : Nat} {L : List ByteArray} {lim : Int} {H : List It} {gt bt gn bn go gp : Nat} (hp : Hp wr F gh g L lim H) (hF : ∀ k, F k → k < w.heap.size) (hb : Below w.heap.size w wr)
    (h1 : Blk wr gp 22 #[.pointer (some ⟨gh, 0, none⟩)]) (h2 : Blk wr gt 79 #[.map (some bt)]) (h3 : wr.ownsMap Try.prog 3 (plainElem Try.prog 31) bt 0 (.map [] : DataW Unit)) (h4 : Blk wr gn 62 #[.pointer (some ⟨g, 0, none⟩), .int .i64 lim, .slice none 0 0, .map (some bn)]) (h5 : wr.ownsMap Try.prog 3 (plainElem Try.prog 3) bn 0 (.map [] : DataW Unit)) (h6 : Blk wr go 39 #[.slice none 0 0])
    (n1 : w.heap.size ≤ gt) (n2 : w.heap.size ≤ bt ∧ bt < wr.heap.size) (n3 : w.heap.size ≤ gn) (n4 : w.heap.size ≤ bn ∧ bn < wr.heap.size) (n5 : w.heap.size ≤ go) (n6 : gp < gt ∧ gp < bt ∧ gp < gn ∧ gp < bn ∧ gp < go) (n7 : bt ≠ bn) :
    ∃ G, Ms w none0 wr F G w.heap.size gh g L lim H gt gn gp go [] 0 := by
  refine ⟨fun k => k = gt ∨ k = bt ∨ k = gn ∨ k = bn ∨ k = go, bt, bn, .slice none 0 0, .slice none 0 0, 0, 0, .map [], .map [], ?_, Nat.le_refl _, Nat.le_refl _⟩
  have hno : ∀ r, (Value.slice none 0 0).ownBlock = some r → False := fun r h => by simp [Value.ownBlock] at h
  exact {
    hp := hp
    fb := hF
    gB := fun k hk => by
      rcases hk with rfl | rfl | rfl | rfl | rfl
      · exact ⟨n1, h2.lt⟩
      · exact n2
      · exact ⟨n3, h4.lt⟩
      · exact n4
      · exact ⟨n5, h6.lt⟩
    bp := h1
    np := fun hk => by rcases hk with h | h | h | h | h <;> omega
    ggt := .inl rfl
    gbt := .inr (.inl rfl)
    ggn := .inr (.inr (.inl rfl))
    gbn := .inr (.inr (.inr (.inl rfl)))
    ggo := .inr (.inr (.inr (.inr rfl)))
    gvr := fun r h => (hno r h).elim
    gvo := fun r h => (hno r h).elim
    bt_ := h2
    mt := h3
    ti := TMap.nil
    bn_ := h4
    rr := World.ownsRow_nil _ _ _ _
    mn := h5
    hD := HMap.nil
    bo_ := h6
    ro := World.ownsRow_nil _ _ _ _
    nb := n7
    nr := fun r h => (hno r h).elim
    kp := Keep.new hb
    gG := fun k hk => .inr (by rcases hk with rfl | rfl | rfl | rfl | rfl <;> omega) }
/-- The told row grows. -/
theorem out_push {w0 w : World} {G0 F G : Nat → Prop} {gh g : Nat} {L : List ByteArray} {lim : Int} {H : List It} {gt gn gp go m : Nat} {ps : List Int} (h : Ms w0 G0 w F G gp gh g L lim H gt gn gp go ps m) (hw : w0.heap.size = gp) {v : Value} {n : Nat} {xs : List Int} (ho : Fo w G (gp + 1) v n xs) (y : Int) (hl : n < 1073741824) :
    ∃ A c w2, (Builtin.append_ #[39, 39] 39 #[v, .slice (some ⟨w.heap.size, 0, none⟩) 1 1]).run Try.prog (w.alloc (.cells #[.int .u64 y] 31)) = .ok (.slice A (n + 1) c) w2 ∧ Fo w2 G (gp + 1) (.slice A (n + 1) c) (n + 1) (xs ++ [y]) ∧ Ms w0 G0 w2 F G gp gh g L lim H gt gn gp go ps m := by
  obtain ⟨i0, hi, hy0, hy1, hy2⟩ := info_parts infoW
  have hb : Below w.heap.size w (w.alloc (.cells #[.int .u64 y] 31)) := ballocs (Below.refl _ _) _
  have h1 := h.below hb
  have ho1 := ho.below hb
  have hsz : gp + 1 ≤ (w.alloc (.cells #[.int .u64 y] 31)).heap.size := by
    obtain ⟨_, _, _, _, _, _, _, _, hc⟩ := h1.cw
    exact hc.bp.lt
  obtain ⟨v', w2, hrun, hR, hg, hat⟩ := run_append_any (P := Try.prog) (w.alloc (.cells #[.int .u64 y] 31)) (gp + 1) 39 39 31 i0 _ 1 8 Try.underlying39 hi hy0 hy1 hy2 rfl (by decide) v n (u64s xs) ho1.1 _ (some ⟨w.heap.size, 0, none⟩) 1 1 (u64s [y]) (one_reads w y) (fun u hu => by
    simp [u64s] at hu
    subst hu
    rfl) (by unfold maxLen; omega) (by omega) hsz
  rw [show u64s xs ++ u64s [y] = u64s (xs ++ [y]) by unfold u64s; rw [List.map_append]] at hR
  obtain ⟨A, c, rfl, _, _⟩ := ownsRow_form hR
  have hk : Keep (fun b => v.ownBlock = some b) (w.alloc (.cells #[.int .u64 y] 31)) w2 := (Keep.refl _ _).grown hg (fun k hk => .inl hk)
  refine ⟨A, c, w2, hrun, ⟨hR, fun r hr => ?_⟩, ?_⟩
  · rcases hat with e | e
    · rw [e] at hr; exact ho.2 r hr
    · rw [e] at hr
      injection hr with hr
      subst hr
      exact fun hG => by have := (h1.gB _ hG).2; omega
  · obtain ⟨bt, bn, vr, vo, Nt, Nn, Dt, Dn, hc, h2⟩ := h1
    refine ⟨bt, bn, vr, vo, Nt, Nn, Dt, Dn, hc.keep hk (fun b hf e => ?_) (fun b hg e => ho.2 b e hg) (fun e => ?_) (fun b hb e => ?_), h2⟩
    · have := hc.fb b hf; have := (ho.1.lt b e).1; omega
    · have := (ho.1.lt _ e).1; omega
    · have := (ho.1.lt b e).1; omega
/-- The old heap's struct is the new one's. -/
theorem Ms.last {w wr : World} {F G : Nat → Prop} {gh g : Nat} {L : List ByteArray} {lim : Int} {H : List It} {gt gn gp go : Nat} {ps : List Int} (h : Ms w none0 wr F G w.heap.size gh g L lim H gt gn gp go ps (tot H ps)) (hs : Ps H ps) (hc : Cl H ps) :
    ∃ vr bn x0 x1 x2 x3, (∃ A n c, vr = .slice A n c) ∧ Blk wr gn 62 #[.pointer (some ⟨g, 0, none⟩), .int .i64 lim, vr, .map (some bn)] ∧ Blk wr gh 62 #[x0, x1, x2, x3] ∧ wr.cell? ⟨gp, 0, none⟩ = some (.pointer (some ⟨gh, 0, none⟩)) ∧ gh < w.heap.size ∧
      ∃ F', Hp (put4 wr gh (.pointer (some ⟨g, 0, none⟩)) (.int .i64 lim) vr (.map (some bn))) F' gh g L lim (col H ps) ∧ (∀ k, F' k → F k ∨ w.heap.size ≤ k) ∧ (∀ k, F' k → F k ∨ G k) ∧ Keep F w (put4 wr gh (.pointer (some ⟨g, 0, none⟩)) (.int .i64 lim) vr (.map (some bn))) := by
  obtain ⟨bt, bn, vr, vo, Nt, Nn, Dt, Dn, hw, hN1, hN2⟩ := h
  obtain ⟨hB, FT, v, bm, N, D, hq, _⟩ := hw.hp
  have hlim := hB.lim1
  have hhl := hB.hl
  have hghF : gh < w.heap.size := hw.fb _ hq.fg
  have hkp : Keep (fun b => b = gh) wr (put4 wr gh (.pointer (some ⟨g, 0, none⟩)) (.int .i64 lim) vr (.map (some bn))) := put4_keep (Keep.refl (fun b => b = gh) wr) (g := gh) (.inl rfl) _ _ _ _
  have hrow : row H ps (tot H ps) = hW (col H ps) := by
    rw [hW_col]; unfold row; rw [← R_len]; exact turn_all _ _
  have hGh : ∀ k, G k → k ≠ gh := fun k hk e => by have := (hw.gB k hk).1; omega
  have hRr := hw.rr
  rw [hrow] at hRr
  have hkn : kindAt (raw H ps) = kindAt (col H ps) := by funext q; unfold col; rw [kindAt_rel]
  have hHD := hw.hD
  rw [hkn] at hHD
  refine ⟨vr, bn, _, _, _, _, (by obtain ⟨A, c, e, _⟩ := ownsRow_form hw.rr; exact ⟨A, _, c, e⟩), hw.bn_, hq.blk, hw.bp.cell 0, hghF, fun k => k = gh ∨ FT k ∨ k = bn ∨ vr.ownBlock = some k, ?_, fun k hk => ?_, fun k hk => ?_, ?_⟩
  · refine ⟨⟨col_wf hB.wf hs hc (by omega), hB.lim0, hB.lim1, by rw [col_len]; have := tot_le hs; omega, hB.at4⟩, FT, vr, bn, Nn, Dn, ⟨fun k hk => ?_, .inl rfl, .inr (.inr (.inl rfl)), fun r hr => .inr (.inr (.inr hr)), fun k hk => .inr (.inl hk), hq.ng, fun hf => ?_, fun r hr hf => ?_, ?_, ?_, ?_, ?_, hHD⟩, ?_⟩
    · rw [put4_size]
      rcases hk with rfl | h1 | rfl | h1
      · exact hq.fl _ hq.fg
      · exact hq.fl k (hq.ft k h1)
      · exact (hw.gB _ hw.gbn).2
      · exact (hw.gB _ (hw.gvr k h1)).2
    · have := hw.fb _ (hq.ft _ hf); have := (hw.gB _ hw.gbn).1; omega
    · have := hw.fb _ (hq.ft _ hf); have := (hw.gB _ (hw.gvr r hr)).1; omega
    · exact hq.tab.keep hkp (fun k hk e => hq.ng (e ▸ hk))
    · exact put4_blk hq.blk _ _ _ _
    · exact ownsRow_keep hRr hkp (fun r hr => hGh r (hw.gvr r hr))
    · exact ownsMap_keep hw.mn hkp (hGh _ hw.gbn)
    · rw [col_len]; have := len_le_tot hB.wf.pos hs; omega
  · rcases hk with rfl | h1 | rfl | h1
    · exact .inl hq.fg
    · exact .inl (hq.ft k h1)
    · exact .inr (hw.gB _ hw.gbn).1
    · exact .inr (hw.gB _ (hw.gvr k h1)).1
  · rcases hk with rfl | h1 | rfl | h1
    · exact .inl hq.fg
    · exact .inl (hq.ft k h1)
    · exact .inr hw.gbn
    · exact .inr (hw.gvr k h1)
  · exact put4_keep (hw.kp.mono (fun i _ (h : none0 i) => (show False from h).elim)) (.inl hq.fg) _ _ _ _
/-- What Collect leaves. -/
def CollectPost (w : World) (F : Nat → Prop) (gh g : Nat) (L : List ByteArray) (lim : Int) (H : List It) (ws : List Int) (e : Ending) (w' : World) : Prop :=
  ∃ ps A c F', Run H 0 (addAll [] ws) ps ∧ e = .returned (.tuple #[.slice A ws.length c, .int .i64 0]) ∧ w'.ownsRow w.heap.size 31 1 (.slice A ws.length c) ws.length (u64s (ws.map (reloc H ps))) ∧ (∀ r, (Value.slice A ws.length c).ownBlock = some r → ¬ F' r) ∧ Hp w' F' gh g L lim (col H ps) ∧ (∀ k, F' k → F k ∨ w.heap.size ≤ k) ∧ Keep F w w'
/-- Ahead of the k-th item. -/
def Sc (w wr : World) (F : Nat → Prop) (gh g : Nat) (L : List ByteArray) (lim : Int) (H : List It) (gt gn gp go : Nat) (ps0 : List Int) (outs : List Int) (vo : Value) (n : Nat) (k : Nat) : Prop :=
  ∃ G ps, Ms w none0 wr F G gp gh g L lim H gt gn gp go ps (tot H (ps.take k)) ∧ Pl H ps (tot H (ps.take k)) ∧ k ≤ ps.length ∧ (∀ r, Run H k ps r → Run H 0 ps0 r) ∧ Fo wr G (gp + 1) vo n outs
/-- In the k-th item, ahead of its j-th word. -/
def Sw (w wr : World) (F : Nat → Prop) (gh g : Nat) (L : List ByteArray) (lim : Int) (H : List It) (gt gn gp go : Nat) (ps : List Int) (x : It) (s : Nat) (outs : List Int) (vo vc : Value) (n n1 : Nat) (j : Nat) : Prop :=
  ∃ G, Ms w none0 wr F G gp gh g L lim H gt gn gp go (addAll ps (x.ws.take j)) (s + j) ∧ Pl H (addAll ps (x.ws.take j)) (s + j) ∧ Fo wr G (gp + 1) vo n outs ∧ Fo wr G (gp + 1) vc n1 x.ws
section
variable {w wr : World} {F : Nat → Prop} {gh g : Nat} {L : List ByteArray} {lim : Int} {H : List It} {gt gn gp go : Nat} {ps0 : List Int} {outs : List Int} {vo : Value} {n : Nat} {k : Nat}
theorem Sc.go_ (h : Sc w wr F gh g L lim H gt gn gp go ps0 outs vo n k) : ∃ nps Ao co, k ≤ nps ∧ nps ≤ (hW H).length ∧ (hW H).length ≤ 16777216 ∧ wr.cell? ⟨go, 0, none⟩ = some (.slice Ao nps co) ∧ go < wr.heap.size ∧
    (k < nps → ∃ (x : It) (s o : Nat) (y : Int) (ad : Addr) (n1 : Nat) (G : Nat → Prop) (ps : List Int), Ao = some ad ∧ ad.block < wr.heap.size ∧ wr.cell? (ad.add k) = some (.int .u64 y) ∧ x.ws.length = n1 ∧ n1 ≤ 64 ∧ o + 1 + n1 ≤ 33554432 ∧ s + n1 ≤ 16777216 ∧
      RowKit.Hid (∀ w, Calls Try.prog 34 #[.int .u64 y] w (fun r w' => r = .returned (.tuple #[.int .i64 x.k, .int .i64 (o : Int), .int .i64 0]) ∧ Below w.heap.size w w')) ∧
      RowKit.Hid (∀ w', Below wr.heap.size wr w' → Calls Try.prog 39 #[.pointer (some ⟨gn, 0, none⟩), .int .u64 y] w' (fun e w'' => ∃ A' c', e = .returned (.tuple #[.int .i64 (itN x), .slice A' n1 c']) ∧ Below w'.heap.size w' w'' ∧ (A' = none → c' = 0) ∧ Reads w'' w''.heap.size 1 A' n1 (u64s x.ws))) ∧
      (x.k = 9 → o = s) ∧ (x.k ≠ 9 → o + 1 = s) ∧
      RowKit.Hid ((∀ i v, x.ws[i]? = some v → (R H ps)[s + i]? = some v) ∧ Ms w none0 wr F G gp gh g L lim H gt gn gp go ps s ∧ Pl H ps s ∧ Fo wr G (gp + 1) vo n outs ∧ (∀ u ∈ x.ws, U64 u ∧ may H L.length u = true)) ∧
      RowKit.Hid (∀ wr3 vc, Sw w wr3 F gh g L lim H gt gn gp go ps x s outs vo vc n n1 n1 → Sc w wr3 F gh g L lim H gt gn gp go ps0 outs vo n (k + 1))) := by
  obtain ⟨G, ps, hms, hpl, hkl, hrun, hfo⟩ := h
  have hhp := hms.hp
  have hps := hpl.ps_
  have hcnt := len_le_tot hhp.1.wf.pos hps
  have htl := tot_le hps
  have hlim := hhp.1.lim1
  have hhl := hhp.1.hl
  obtain ⟨Ao, co, Ar, cr, o1, o2, o3, o4, o5, o6, o7, o8⟩ := hms.cells
  refine ⟨ps.length, Ao, co, hkl, by omega, by omega, o1, o3, fun hlt => ?_⟩
  obtain ⟨q, hq⟩ : ∃ q, ps[k]? = some q := ⟨_, List.getElem?_eq_getElem hlt⟩
  have hqm := List.mem_of_getElem? hq
  obtain ⟨x, hx⟩ : ∃ x, itm H q = x := ⟨_, rfl⟩
  have hatq := hps.itAt hqm
  rw [hx] at hatq
  have hok := hhp.1.wf.ok x (itAt_mem hatq)
  have hot : tot H (ps.take k) = off H ps q := by rw [off_get hps.nd hq]
  obtain ⟨o, ho⟩ : ∃ o, off H ps q = o := ⟨_, rfl⟩
  obtain ⟨s1, s2⟩ := seg_R hhp.1.wf.pos hps hqm
  have s3 := seg_row hhp.1.wf.pos hps hqm (m := tot H (ps.take k)) (by rw [hot]; exact Nat.le_refl _)
  rw [hx, ho] at s1 s2 s3
  rw [ho] at hot
  rw [hot] at s3 o8 hpl hms
  have hbk := hok.box
  have hbk2 := hbk
  unfold boxK at hbk2
  obtain ⟨g1, g2⟩ := high_num (k := x.k) (by omega)
  obtain ⟨e1, e2, e3⟩ := pack_facts (k := x.k) (n := (o : Int)) (by omega) ⟨by rw [g1]; omega, by rw [g2]; omega, fun h => by omega⟩
  obtain ⟨y, hy⟩ : ∃ y, packW x.k (o : Int) = y := ⟨_, rfl⟩
  have hU : U64 y := by rw [← hy]; exact packW_range _ _
  rw [hy] at e1 e2 e3
  obtain ⟨ad, uv, rfl, hab, huv, hcell⟩ := o2.at_ (k := k) hlt
  obtain rfl : uv = .int .u64 y := by
    unfold u64s ords at huv
    rw [List.getElem?_map, List.getElem?_map, hq, Option.map_some, Option.map_some, hx, ho, hy] at huv
    injection huv with huv
    exact huv.symm
  have hp0 := hok.pos
  obtain ⟨rr, c', hv, _, _, _, hrr, k5⟩ := ownsRow_at o8 (k := 0) (by omega)
  injection hv with hv1 _ hv2
  subst hv1 hv2
  have hcells : ∀ j v, (row H ps o)[j]? = some v → wr.cell? ⟨rr, j, none⟩ = some (.int .u64 v) := fun j v hv => k5 j _ (by unfold u64s; rw [List.getElem?_map, hv]; rfl)
  have hiw := itW_len x
  have h64 := hok.len
  have hWl : (row H ps o).length = tot H ps := row_len H ps o
  have hext := addAll_ext x.ws ps
  have etot : o + (itW x).length = tot H ((addAll ps x.ws).take (k + 1)) := by
    obtain ⟨z, hz⟩ := hext
    rw [hz, List.take_append_of_le_length (by omega), take_snoc_int hq, tot_app, tot_one, hot]
    unfold lenI
    rw [hx]
  have hsw : ∃ s : Nat, (x.k = 9 → o = s) ∧ (x.k ≠ 9 → o + 1 = s) ∧ (∀ i v, x.ws[i]? = some v → (R H ps)[s + i]? = some v) ∧ Ms w none0 wr F G gp gh g L lim H gt gn gp go ps s ∧ Pl H ps s ∧ s + x.ws.length = o + (itW x).length := by
    by_cases h9 : x.k = 9
    · have hs0 : itW x = x.ws := by unfold itW hd; rw [if_neg (by omega), if_neg (by omega)]; rfl
      exact ⟨o, fun _ => rfl, fun h => absurd h9 h, fun i v hv => s2 i v (by rw [hs0]; exact hv), hms, hpl, by rw [hs0]⟩
    · obtain ⟨hw, hhd, hwU, hwE, hwN⟩ := head_facts hok h9
      have hs0 : itW x = [hw] ++ x.ws := by unfold itW; rw [hhd]
      have hbw : boxd hw = false := hd_box hw (by rw [hhd]; simp)
      have h0 := s2 0 hw (by rw [hs0]; rfl)
      rw [Nat.add_zero] at h0
      refine ⟨o + 1, fun h => absurd h h9, fun _ => rfl, fun i v hv => ?_, ?_, hpl.skip h0 hbw, by rw [hs0]; simp; omega⟩
      · have := s2 (1 + i) v (by rw [hs0, List.getElem?_append_right (by simp)]; simpa using hv)
        rw [← this]
        congr 1
        omega
      · unfold Ms at hms ⊢
        rw [row_head h0 hbw]
        exact hms
  obtain ⟨s, hs1, hs2, hs3, hs4, hs5, hs6⟩ := hsw
  refine ⟨x, s, o, y, ad, x.ws.length, G, ps, rfl, hab, hcell, rfl, h64, by omega, by omega, Lib.hid (fun w => unpack_as hU e2 e3 e1 w), Lib.hid (fun w' hb => ?_), hs1, hs2, Lib.hid ⟨hs3, hs4, hs5, hfo, hhp.1.wf.words x (itAt_mem hatq)⟩, Lib.hid (fun wr3 vc hsw => ?_)⟩
  · refine (parts_any gn rr (tot H ps) cr o (row H ps o) x y w' hU e2 e3 hok s3 s1 hWl (by omega) o5 o6 ((hb.cell (p := ⟨gn, 2, none⟩) o7).trans o4) (fun j v hv => (hb.cell (p := ⟨rr, j, none⟩) (World.block_lt_of_cell? _ _ (hcells j v hv))).trans (hcells j v hv))).mono ?_
    rintro e w'' ⟨A', c', rfl, hb8, ha8, h08, hc8, hr8⟩
    exact ⟨A', c', rfl, hb8, h08, hr8 w'' (fun j => hb8.cell (p := ⟨rr, j, none⟩) (Nat.lt_of_lt_of_le hrr hb.size)) (Nat.lt_of_lt_of_le hrr (Nat.le_trans hb.size hb8.size))⟩
  · obtain ⟨G3, h1, h2, h3, _⟩ := hsw
    rw [List.take_length, hs6, etot] at h1 h2
    obtain ⟨z, hz⟩ := hext
    exact ⟨G3, addAll ps x.ws, h1, h2, by rw [hz, List.length_append]; omega, fun r h => hrun r (.step k ps q r hq (by rw [hx]; exact h)), h3⟩
/-- Behind the scan. -/
theorem Sc.end_ {ws : List Int} (hgp : w.heap.size = gp) (hws : ws.length = n) (hF : ∀ k, F k → k < w.heap.size) (h0 : addAll [] ws = ps0) (ho : ws.map (reloc H ps0) = outs) {A : Option Addr} {c : Nat} (hv : vo = .slice A n c) (h : Sc w wr F gh g L lim H gt gn gp go ps0 outs vo n k) {Ao : Option Addr} {nps co : Nat} (hc : wr.cell? ⟨go, 0, none⟩ = some (.slice Ao nps co)) (hk : k = nps) :
    ∃ Av nv cv bn x0 x1 x2 x3, Blk wr gn 62 #[.pointer (some ⟨g, 0, none⟩), .int .i64 lim, .slice Av nv cv, .map (some bn)] ∧ Blk wr gh 62 #[x0, x1, x2, x3] ∧ wr.cell? ⟨gp, 0, none⟩ = some (.pointer (some ⟨gh, 0, none⟩)) ∧
      CollectPost w F gh g L lim H ws (.returned (.tuple #[.slice A n c, .int .i64 0])) (put4 wr gh (.pointer (some ⟨g, 0, none⟩)) (.int .i64 lim) (.slice Av nv cv) (.map (some bn))) := by
  obtain ⟨G, ps, hms, hpl, hkl, hrun, hfo⟩ := h
  obtain ⟨Ao', co', _, _, o1, _⟩ := hms.cells
  rw [o1] at hc
  have hnp : ps.length = nps := by injection hc with hc; injection hc
  subst hv
  have etk : ps.take k = ps := List.take_of_length_le (by omega)
  rw [etk] at hms hpl
  have hR0 := hrun ps (.stop k ps (by omega))
  have hcl := hR0.cl
  rw [← hgp] at hms
  obtain ⟨vr, bn', x0, x1, x2, x3, ⟨Av, nv, cv, rfl⟩, y1, y2, y3, y4, F', hF1, hF2, hF3, hF4⟩ := hms.last hpl.ps_ hcl
  rw [hgp] at y3
  refine ⟨Av, nv, cv, bn', x0, x1, x2, x3, y1, y2, y3, ?_⟩
  obtain ⟨z, hz⟩ := hR0.ext
  refine ⟨ps, A, c, F', by rw [h0]; exact hR0, by rw [hws], ?_, fun r hr hFF => ?_, hF1, hF2, hF4⟩
  · rw [hws, show ws.map (reloc H ps) = outs from by
      rw [← ho]
      exact List.map_congr_left (fun u hu => by rw [hz]; exact reloc_app (fun hb => by rw [← h0]; exact addAll_mem hu hb))]
    refine ownsRow_base (ownsRow_keep hfo.1 (put4_keep (Keep.refl (fun b => b = gh) wr) (g := gh) (.inl rfl) _ _ _ _) (fun r hr e => ?_)) (fun r hr => ?_)
    · have := (hfo.1.lt r hr).1; omega
    · have := (hfo.1.lt r hr).1; omega
  · rw [hws] at hr
    rcases hF3 r hFF with h | h
    · have := hF r h; have := (hfo.1.lt r hr).1; omega
    · exact hfo.2 r hr h
end
section
variable {w wr : World} {F : Nat → Prop} {gh g : Nat} {L : List ByteArray} {lim : Int} {H : List It} {gt gn gp go : Nat} {ps outs : List Int} {x : It} {s : Nat} {vo : Value} {n n1 j : Nat} {Ac : Option Addr} {cc : Nat}
/-- A word's round: the word, its move, its store. -/
theorem Sw.go_ (hx : x.ws.length = n1) (hs : ∀ i v, x.ws[i]? = some v → (R H ps)[s + i]? = some v) (hwf : ∀ u ∈ x.ws, U64 u ∧ may H L.length u = true) (h : Sw w wr F gh g L lim H gt gn gp go ps x s outs vo (.slice Ac n1 cc) n n1 j) (hj : j < n1) :
    ∃ ad u, Ac = some ad ∧ ad.block < wr.heap.size ∧ wr.cell? (ad.add j) = some (.int .u64 u) ∧ RowKit.Hid (Calls Try.prog 38 #[.int .u64 u, .pointer (some ⟨gt, 0, none⟩), .pointer (some ⟨gn, 0, none⟩), .pointer (some ⟨gp, 0, none⟩), .pointer (some ⟨go, 0, none⟩)] wr (fun e w10 => ∃ y4 r4 c4 N4 zz, e = .returned (.int .u64 y4) ∧ w10.cell? ⟨gn, 2, none⟩ = some (.slice (some ⟨r4, 0, none⟩) N4 c4) ∧ s + j < N4 ∧ gn < w10.heap.size ∧ r4 < w10.heap.size ∧ w10.frozen? ⟨r4, s + j, none⟩ = false ∧ w10.cell? ⟨r4, s + j, none⟩ = some zz ∧
      Sw w (w10.setCell ⟨r4, s + j, none⟩ (.int .u64 y4)) F gh g L lim H gt gn gp go ps x s outs vo (.slice Ac n1 cc) n n1 (j + 1))) := by
  obtain ⟨G3, hms3, hpl3, hfo3, hfc3⟩ := h
  obtain ⟨u, hu⟩ : ∃ u, x.ws[j]? = some u := ⟨_, List.getElem?_eq_getElem (by omega)⟩
  obtain ⟨ad3, uv3, rfl, hab3, huv3, hcell3⟩ := (Reads.of_own hfc3.1).at_ (k := j) hj
  obtain rfl : uv3 = .int .u64 u := by
    unfold u64s at huv3
    rw [List.getElem?_map, hu] at huv3
    injection huv3 with huv3
    exact huv3.symm
  obtain ⟨hU, hmy⟩ := hwf u (List.mem_of_getElem? hu)
  refine ⟨ad3, u, rfl, hab3, hcell3, Lib.hid ?_⟩
  refine (move_any _ F G3 gp gh g L lim H gt gn gp go _ (s + j) u hms3.self hpl3 hU hmy).mono ?_
  rintro e w10 ⟨rfl, G4, hm10⟩
  have eadd : add (addAll ps (x.ws.take j)) u = addAll ps (x.ws.take (j + 1)) := by rw [take_snoc_int hu, addAll_snoc]
  have hR : (R H (addAll ps (x.ws.take (j + 1))))[s + j]? = some u := by
    obtain ⟨z, hz⟩ := addAll_ext (x.ws.take (j + 1)) ps
    rw [hz]
    exact R_ext (hs j u hu)
  have hm10' := hms3.rebase hm10
  have hpl' := hpl3.next hmy (by rw [eadd]; exact hR)
  rw [eadd] at hm10' hpl' ⊢
  obtain ⟨_, _, _, _, _, _, _, _, _, _, o7, _⟩ := hm10'.cells
  obtain ⟨r4, c4, z1, z2, z3, z4, ⟨zz, z5⟩, hm11⟩ := hm10'.store hR
  have hk4 : Keep G4 w10 (w10.setCell ⟨r4, s + j, none⟩ (.int .u64 (reloc H (addAll ps (x.ws.take (j + 1))) u))) := (Keep.refl G4 w10).setCell (p := ⟨r4, s + j, none⟩) (.inl z3) _
  exact ⟨_, r4, c4, _, zz, rfl, z1, z2, o7, World.block_lt_of_cell? _ _ z5, z4, z5, G4, hm11, hpl', (hfo3.keep hm10.kp hm10.gG).keep hk4 (fun k h => .inl h), (hfc3.keep hm10.kp hm10.gG).keep hk4 (fun k h => .inl h)⟩
end
theorem u64s_one (xs : List Int) : ∀ v ∈ u64s xs, v.oneCell' = true := fun v hv => by
  unfold u64s at hv
  obtain ⟨z, _, rfl⟩ := List.mem_map.1 hv
  rfl
section
variable {w wr : World} {F G : Nat → Prop} {gh g : Nat} {L : List ByteArray} {lim : Int} {H : List It} {gt gn gp go : Nat} {ws : List Int} {n i : Nat} {A A0 : Option Addr} {c : Nat}
/-- A root's round: the word, its move, what is told of it. -/
theorem Su.go_ (hn : ws.length = n) (hgp : w.heap.size = gp) (hr : Reads w w.heap.size 1 A0 ws.length (u64s ws)) (hu : ∀ u ∈ ws, U64 u ∧ may H L.length u = true)
    (hms : Ms w none0 wr F G gp gh g L lim H gt gn gp go (addAll [] (ws.take i)) 0) (hfo : Fo wr G (gp + 1) (.slice A i c) i ((ws.take i).map (reloc H (addAll [] (ws.take i))))) (hlt : i < n) (hl : i < 1073741824) :
    ∃ ad u, A0 = some ad ∧ ad.block < wr.heap.size ∧ wr.cell? (ad.add i) = some (.int .u64 u) ∧ RowKit.Hid (Calls Try.prog 38 #[.int .u64 u, .pointer (some ⟨gt, 0, none⟩), .pointer (some ⟨gn, 0, none⟩), .pointer (some ⟨gp, 0, none⟩), .pointer (some ⟨go, 0, none⟩)] wr (fun e w7 => ∃ y A8 c8 w8, e = .returned (.int .u64 y) ∧
      (Builtin.append_ #[39, 39] 39 #[.slice A i c, .slice (some ⟨w7.heap.size, 0, none⟩) 1 1]).run Try.prog (w7.alloc (.cells #[.int .u64 y] 31)) = .ok (.slice A8 (i + 1) c8) w8 ∧
      ∃ G', Ms w none0 w8 F G' gp gh g L lim H gt gn gp go (addAll [] (ws.take (i + 1))) 0 ∧ Fo w8 G' (gp + 1) (.slice A8 (i + 1) c8) (i + 1) ((ws.take (i + 1)).map (reloc H (addAll [] (ws.take (i + 1))))))) := by
  have hrd : Reads wr w.heap.size 1 A0 ws.length (u64s ws) := hr.keep (fun p hp => hms.kp.cell hp (fun h => h))
  obtain ⟨ad, uv, rfl, hab, huv, hcell⟩ := hrd.at_ (k := i) (by omega)
  obtain ⟨u, hu'⟩ : ∃ u, ws[i]? = some u := ⟨_, List.getElem?_eq_getElem (by omega)⟩
  obtain rfl : uv = .int .u64 u := by
    unfold u64s at huv
    rw [List.getElem?_map, hu'] at huv
    injection huv with huv
    exact huv.symm
  obtain ⟨hU, hmy⟩ := hu u (List.mem_of_getElem? hu')
  have hpl : Pl H (addAll [] (ws.take i)) 0 := ⟨addAll_ps (Ps.nil H) (fun v hv => (hu v (List.mem_of_mem_take hv)).2), Nat.zero_le _, fun v hv => by simp at hv⟩
  refine ⟨ad, u, rfl, Nat.lt_of_lt_of_le hab hms.kp.size, hcell, Lib.hid ?_⟩
  refine (move_any wr F G gp gh g L lim H gt gn gp go _ 0 u hms.self hpl hU hmy).mono ?_
  rintro e w7 ⟨rfl, G', hm7⟩
  have hm7' := hms.rebase hm7
  have hfo7 := hfo.keep hm7.kp hm7.gG
  have eadd : add (addAll [] (ws.take i)) u = addAll [] (ws.take (i + 1)) := by rw [take_snoc_int hu', addAll_snoc]
  rw [eadd] at hm7' ⊢
  have exs : (ws.take i).map (reloc H (addAll [] (ws.take i))) ++ [reloc H (addAll [] (ws.take (i + 1))) u] = (ws.take (i + 1)).map (reloc H (addAll [] (ws.take (i + 1)))) := by
    rw [take_snoc_int hu', List.map_append, List.map_cons, List.map_nil]
    congr 1
    refine List.map_congr_left (fun v hv => ?_)
    rw [addAll_snoc]
    obtain ⟨x, hx⟩ := add_ext (addAll [] (ws.take i)) u
    rw [hx]
    exact (reloc_app (fun hb => addAll_mem hv hb)).symm
  obtain ⟨A8, c8, w8, hrun, hfo8, hm8⟩ := out_push hm7' hgp hfo7 (reloc H (addAll [] (ws.take (i + 1))) u) (by omega)
  rw [exs] at hfo8
  exact ⟨_, A8, c8, w8, rfl, hrun, G', hm8, hfo8⟩
theorem Su.end_ {ps0 outs : List Int} (hn : ws.length = i) (hu : ∀ u ∈ ws, U64 u ∧ may H L.length u = true) (h0 : addAll [] ws = ps0) (ho : ws.map (reloc H ps0) = outs)
    (hms : Ms w none0 wr F G gp gh g L lim H gt gn gp go (addAll [] (ws.take i)) 0) (hfo : Fo wr G (gp + 1) (.slice A i c) i ((ws.take i).map (reloc H (addAll [] (ws.take i))))) : Sc w wr F gh g L lim H gt gn gp go ps0 outs (.slice A i c) i 0 := by
  have etk : ws.take i = ws := List.take_of_length_le (by omega)
  rw [etk, h0] at hms hfo
  rw [ho] at hfo
  have hps0p : Ps H ps0 := by rw [← h0]; exact addAll_ps (Ps.nil H) (fun v hv => (hu v hv).2)
  exact ⟨G, ps0, by rw [List.take_zero, tot_nil]; exact hms, by rw [List.take_zero, tot_nil]; exact ⟨hps0p, Nat.zero_le _, fun u hu => by simp at hu⟩, Nat.zero_le _, fun r h => h, hfo⟩
theorem Sw.start {ps outs : List Int} {x : It} {s n1 : Nat} {vo : Value} {w8 w9 : World} {Ac : Option Addr} {cc : Nat}
    (h : (∀ i v, x.ws[i]? = some v → (R H ps)[s + i]? = some v) ∧ Ms w none0 wr F G gp gh g L lim H gt gn gp go ps s ∧ Pl H ps s ∧ Fo wr G (gp + 1) vo n outs ∧ (∀ u ∈ x.ws, U64 u ∧ may H L.length u = true))
    (hb : Below wr.heap.size wr w8) (hoc : w9.ownsRow w8.heap.size 31 1 (.slice Ac n1 cc) n1 (u64s x.ws)) (hb9 : Below w8.heap.size w8 w9) : Sw w w9 F gh g L lim H gt gn gp go ps x s outs vo (.slice Ac n1 cc) n n1 0 := by
  have hm8 := h.2.1.below hb
  have hgl8 : gp < w8.heap.size := by
    obtain ⟨_, _, _, _, _, _, _, _, hc⟩ := hm8.cw
    exact hc.bp.lt
  refine ⟨G, hm8.below hb9, h.2.2.1, (h.2.2.2.1.below hb).below hb9, ownsRow_base hoc (fun r hr => ?_), fun r hr hg => ?_⟩
  · have := (hoc.lt r hr).1; omega
  · have := (hoc.lt r hr).1; have := (hm8.gB r hg).2; omega
end
end Go.Proofs.Ytnedjmjcbmoknaa.Hp
