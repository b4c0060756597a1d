/- A range over a function whose iterator has cells of its own: the caller's invariant speaks of what was there ahead of the loop alone. No program in sight. -/
import Derived.Test.YtnedjmjcbmoknaaKeep
import Derived.RangeFuncNested
import Derived.RangeFuncBound
import Derived.RangeFuncCalls
import Derived.RangeFuncLeaves
namespace Go.Proofs.Ytnedjmjcbmoknaa.K
open Go.RowKit
set_option linter.unusedVariables false
set_option linter.unusedSimpArgs false

/-- What a round promises: of what is there it turns blocks from n0 on below B alone. -/
def Mild (n0 B : Nat) (k : Nat) : Prop := n0 ≤ k ∧ k < B
theorem Mild.no {n0 B k : Nat} (h : B ≤ k) : ¬ Mild n0 B k := fun ⟨_, h2⟩ => by omega
theorem Mild.old {n0 B k : Nat} (h : k < n0) : ¬ Mild n0 B k := fun ⟨h1, _⟩ => by omega
/-- An iterator, called in W at whatever loop's yield: J and Jx speak of blocks below B; all of S have come, or a part has. -/
def SeqB {α : Type} (P : Program) (g : Nat) (lb : Array Value) (encs : α → Array Value) (Ok : α → Prop) (S Sp : List α → Prop) (N n0 B : Nat) (W : World) : Prop :=
  ∀ (n l : Nat) (J Jx : List α → World → Prop), (∀ s X Y, J s X → Below B X Y → J s Y) → (∀ s X Y, Jx s X → Below B X Y → Jx s Y) →
    (∀ pre x W1, J pre W1 → B ≤ W1.heap.size → pre.length < N → Ok x → YieldAt Fence.wide n P l (encs x) W1 fun e W' =>
      (e = .returned (.bool true) ∧ J (pre ++ [x]) W' ∧ Keep (Mild n0 B) W1 W') ∨ (e = .returned (.bool false) ∧ Jx (pre ++ [x]) W' ∧ Keep (Mild n0 B) W1 W')) →
    J [] W →
    CallsIn Fence.wide (n + 1) P g (#[.func (.yield l) #[] #[]] ++ lb) W fun e W' => (∃ v, e = .returned v) ∧ ((∃ xs, S xs ∧ J xs W') ∨ (∃ pre, Sp pre ∧ Jx pre W'))
theorem SeqB.ok {α : Type} {P : Program} {g : Nat} {lb : Array Value} {encs : α → Array Value} {Ok Ok' : α → Prop} {S Sp : List α → Prop} {N n0 B : Nat} {W : World} (h : SeqB P g lb encs Ok S Sp N n0 B W) (ho : ∀ x, Ok x → Ok' x) : SeqB P g lb encs Ok' S Sp N n0 B W :=
  fun n l J Jx hJ hJx hY h0 => h n l J Jx hJ hJx (fun pre x W1 a b c d => hY pre x W1 a b c (ho x d)) h0
/-- How a round's body may be left. -/
def postB {α : Type} (n0 B : Nat) (I : List α → World → Prop) (Ix : Code → List α → World → Prop) (xs : List α) (W : World) : Exit → Act → World → Prop
  | .normal, _, W' => Keep (Mild n0 B) W W' ∧ I xs W'
  | .ret, _, W' => Keep (Mild n0 B) W W' ∧ Ix .ret xs W'
  | .exit id, _, W' => Keep (Mild n0 B) W W' ∧ Ix (.exit id) xs W'
  | .goto t, _, W' => Keep (Mild n0 B) W W' ∧ Ix (.goto t) xs W'
  | .panic _, _, _ => False
  | .outgrown, _, _ => False
theorem keep_put {F : Nat → Prop} {W : World} {l : Nat} {o : Obj} (o' : Obj) (hl : W.heap[l]? = some o) (hF : F l) : Keep F W (W.putObj l o') := by
  have hg := grownBy_putObj' W l o'
  exact (Keep.refl F W).grown hg (fun k e => by injection e with e; subst e; exact .inl hF)

theorem wp_rangeB {P : Program} {n : Nat} {α : Type} {g : Operand} {ps : Array Tmp} {assign body : Code} {Q : Exit → Act → World → Prop} {a : Act} {w : World} {gf : Nat} {lb : Array Value}
    (hg : a.eval g = .func (.func gf) #[] lb) (eg : ∀ args w, (callFunc gf args).run P w = .ok (.enter gf args) w) {encs : α → Array Value} {Ok : α → Prop} {S Sp : List α → Prop} {N n0 : Nat} (hn0 : n0 ≤ w.heap.size)
    (hseq : ∀ W, Below w.heap.size w W → W.heap.size = w.heap.size + 2 → SeqB P gf lb encs Ok S Sp N n0 (w.heap.size + 2) W) (hps : ∀ x, (encs x).size = ps.size)
    (I : List α → World → Prop) (Ix : Code → List α → World → Prop) (hI : ∀ s X Y, I s X → Below w.heap.size X Y → I s Y) (hIx : ∀ c s X Y, Ix c s X → Below w.heap.size X Y → Ix c s Y) (h0 : I [] w)
    (Ax : α → Act → World → Prop) (hAx : ∀ x a' X Y, Ax x a' X → (∃ r, X.heap[w.heap.size + 1]? = some (.loop r)) → (∀ k, k ≠ w.heap.size + 1 → Y.heap[k]? = X.heap[k]?) → Ax x a' Y)
    (hassign : ∀ (l : Nat) (x : α) (W : World) (K : Act → World → Prop), w.heap.size + 2 ≤ W.heap.size → (∀ a' W', Below W.heap.size W W' → Ax x a' W' → K a' W') →
      assign.wpIn (Fence.wide.inRound l) n P (Exit.then K (fun _ _ _ => False)) { tmps := (ps.zip (encs x)).foldl (fun t (p, v) => t.setIfInBounds p v) a.tmps, defers := [] } W)
    (hbody : ∀ (l : Nat) (pre : List α) (x : α) (a' : Act) (W : World), I pre W → Ax x a' W → pre.length < N → Ok x → w.heap.size + 2 ≤ W.heap.size → body.wpIn (Fence.wide.inRound l) n P (postB n0 w.heap.size I Ix (pre ++ [x]) W) a' W)
    (hdone : ∀ (D : Nat) (xs : List α) (W : World), w.heap.size ≤ D → S xs → I xs W → W.heap[D]? = some (.deferred (some [])) → Q .normal { a with defers := { target := .collected D, args := #[] } :: a.defers } W)
    (hstop : ∀ (D : Nat) (c : Code) (pre : List α) (W : World), w.heap.size ≤ D → Sp pre → Ix c pre W → W.heap[D]? = some (.deferred (some [])) → c.wpIn Fence.wide (n + 2) P Q { a with defers := { target := .collected D, args := #[] } :: a.defers } W) :
    (Code.rangeFunc g ps assign body).wpIn Fence.wide (n + 2) P Q a w := by
  refine wpIn_rangeFunc fun fn hfn => ?_
  let rec_ : LoopState → Option Code → Loop := fun st pe => { state := st, pending := pe, fn, tmps := a.tmps, params := ps, assign, body, defers := w.heap.size }
  let W0 : World := (w.alloc (.deferred (some []))).alloc (.loop (rec_ .ready none))
  -- what the two blocks of the loop's own hold, in each state
  let Bk : LoopState → Option Code → World → Prop := fun st pe W => W.heap[w.heap.size + 1]? = some (.loop (rec_ st pe)) ∧ W.heap[w.heap.size]? = some (.deferred (some []))
  have bw0 : Below w.heap.size w W0 := ((Below.refl _ w).alloc (Nat.le_refl _) _).alloc (by simp) _
  have s0 : W0.heap.size = w.heap.size + 2 := by simp [W0]
  have b0 : Bk .ready none W0 := by
    refine ⟨?_, ?_⟩
    · have := World.alloc_heap_new (w.alloc (.deferred (some []))) (.loop (rec_ .ready none))
      rwa [World.size_alloc] at this
    · exact (Below.heap_alloc _ _ _ (by simp)).trans (World.alloc_heap_new w _)
  have bkKeep : ∀ st pe X Y, Bk st pe X → Keep (Mild n0 w.heap.size) X Y → Bk st pe Y := fun st pe X Y h hk => by
    have l1 := (Array.getElem?_eq_some_iff.1 h.1).1
    exact ⟨(hk.block _ l1 (fun hm => by have := hm.2; omega)).trans h.1, (hk.block _ (by omega) (fun hm => by have := hm.2; omega)).trans h.2⟩
  have bkBelow : ∀ st pe X Y, Bk st pe X → Below (w.heap.size + 2) X Y → Bk st pe Y := fun st pe X Y h hk => ⟨(hk.block _ (by omega)).trans h.1, (hk.block _ (by omega)).trans h.2⟩
  have bkPut : ∀ st pe st' pe' X, Bk st pe X → Bk st' pe' (X.putObj (w.heap.size + 1) (.loop (rec_ st' pe'))) := fun st pe st' pe' X h =>
    ⟨World.putObj_heap_same (Array.getElem?_eq_some_iff.1 h.1).1, (World.putObj_heap_other (by omega)).trans h.2⟩
  have belowPut : ∀ st pe X (o : Obj), Bk st pe X → Below w.heap.size X (X.putObj (w.heap.size + 1) o) := fun st pe X o h =>
    (Below.refl _ X).grown (grownBy_putObj' X _ _) (by have := (Array.getElem?_eq_some_iff.1 h.1).1; omega) (fun k e => by injection e with e; omega)
  refine ⟨w.heap.size + 1, [{ target := .collected w.heap.size, args := #[] }], W0, { target := .fn (.func gf) lb, args := #[.func (.yield (w.heap.size + 1)) #[] #[]] }, W0, gf, #[.func (.yield (w.heap.size + 1)) #[] #[]] ++ lb, W0, run_enterLoop_outer _ _ _ _ _, ?_, fun _ _ => trivial, ?_, (fun h => by cases h), ?_⟩
  · simp only [resolve, hg]
    simp [go_sem]
  · simp [invoke, go_sem, eg]
  · refine (hseq W0 bw0 s0 n (w.heap.size + 1) (fun pre W => I pre W ∧ Bk .ready none W) (fun pre W => ∃ c, Ix c pre W ∧ Bk .done (some c) W)
      (fun s X Y h hb => ⟨hI s X Y h.1 (hb.mono (by omega)), bkBelow _ _ _ _ h.2 hb⟩)
      (fun s X Y h hb => by obtain ⟨c, h1, h2⟩ := h; exact ⟨c, hIx c s X Y h1 (hb.mono (by omega)), bkBelow _ _ _ _ h2 hb⟩)
      ?_ ⟨hI _ _ _ h0 bw0, b0⟩).mono ?_
    · rintro pre x W ⟨hi, hk⟩ hB hlen hok
      have hy := run_yield (P := P) (args := encs x) hk.1 (hps x)
      refine ⟨fn, _, assign, body, hy, roundIn_of_wpIn hfn (hassign _ x W _ hB ?_)⟩
      intro a' Wa hba hax
      have hka : Bk .ready none Wa := ⟨(hba.block _ (by omega)).trans hk.1, (hba.block _ (by omega)).trans hk.2⟩
      have hia : I pre Wa := hI _ _ _ hi (hba.mono (by omega))
      refine ⟨_, run_beginRound hka.1 rfl, ?_⟩
      have hkb : Bk .busy none (Wa.putObj (w.heap.size + 1) (.loop (rec_ .busy none))) := bkPut _ _ _ _ _ hka
      have hib : I pre (Wa.putObj (w.heap.size + 1) (.loop (rec_ .busy none))) := hI _ _ _ hia (belowPut _ _ _ _ hka)
      have hxb : Ax x a' (Wa.putObj (w.heap.size + 1) (.loop (rec_ .busy none))) := hAx x a' Wa _ hax ⟨_, hka.1⟩ (fun k hk => World.putObj_heap_other hk)
      have hzb : w.heap.size + 2 ≤ (Wa.putObj (w.heap.size + 1) (.loop (rec_ .busy none))).heap.size := by
        have h1 := hba.size
        have h2 := (grownBy_putObj' Wa (w.heap.size + 1) (.loop (rec_ .busy none))).size
        omega
      have kk1 : Keep (Mild n0 (w.heap.size + 2)) W Wa := Keep.new hba
      have kk2 : Keep (Mild n0 (w.heap.size + 2)) Wa (Wa.putObj (w.heap.size + 1) (.loop (rec_ .busy none))) := keep_put _ hka.1 ⟨by omega, by omega⟩
      have widen : ∀ X Y, Keep (Mild n0 w.heap.size) X Y → Keep (Mild n0 (w.heap.size + 2)) X Y := fun X Y h => h.mono (fun i _ hm => ⟨hm.1, by have := hm.2; omega⟩)
      refine wpIn_mono (hbody _ pre x a' _ hib hxb hlen hok hzb) ?_
      rintro e a3 W3 hp
      cases e with
      | normal =>
        obtain ⟨hk3, hi3⟩ := hp
        have h3 := bkKeep _ _ _ _ hkb hk3
        exact ⟨_, _, run_endRound none h3.1, .inl ⟨rfl, ⟨hI _ _ _ hi3 (belowPut _ _ _ _ h3), bkPut _ _ _ _ _ h3⟩, ((kk1.trans kk2 (fun _ _ h => h)).trans (widen _ _ hk3) (fun _ _ h => h)).trans (keep_put _ h3.1 ⟨by omega, by omega⟩) (fun _ _ h => h)⟩⟩
      | ret =>
        obtain ⟨hk3, hi3⟩ := hp
        have h3 := bkKeep _ _ _ _ hkb hk3
        exact ⟨_, _, run_endRound (some .ret) h3.1, .inr ⟨rfl, ⟨.ret, hIx _ _ _ _ hi3 (belowPut _ _ _ _ h3), bkPut _ _ _ _ _ h3⟩, ((kk1.trans kk2 (fun _ _ h => h)).trans (widen _ _ hk3) (fun _ _ h => h)).trans (keep_put _ h3.1 ⟨by omega, by omega⟩) (fun _ _ h => h)⟩⟩
      | exit id =>
        obtain ⟨hk3, hi3⟩ := hp
        have h3 := bkKeep _ _ _ _ hkb hk3
        exact ⟨_, _, run_endRound (some (.exit id)) h3.1, .inr ⟨rfl, ⟨.exit id, hIx _ _ _ _ hi3 (belowPut _ _ _ _ h3), bkPut _ _ _ _ _ h3⟩, ((kk1.trans kk2 (fun _ _ h => h)).trans (widen _ _ hk3) (fun _ _ h => h)).trans (keep_put _ h3.1 ⟨by omega, by omega⟩) (fun _ _ h => h)⟩⟩
      | goto t =>
        obtain ⟨hk3, hi3⟩ := hp
        have h3 := bkKeep _ _ _ _ hkb hk3
        exact ⟨_, _, run_endRound (some (.goto t)) h3.1, .inr ⟨rfl, ⟨.goto t, hIx _ _ _ _ hi3 (belowPut _ _ _ _ h3), bkPut _ _ _ _ _ h3⟩, ((kk1.trans kk2 (fun _ _ h => h)).trans (widen _ _ hk3) (fun _ _ h => h)).trans (keep_put _ h3.1 ⟨by omega, by omega⟩) (fun _ _ h => h)⟩⟩
      | panic ch => exact hp.elim
      | outgrown => exact hp.elim
    · rintro e W2 ⟨⟨v, rfl⟩, (⟨xs, hS, hi, hk⟩ | ⟨pre, hSp, c, hi, hk⟩)⟩
      · exact ⟨none, _, run_endLoop hk.1 (by simp [rec_]), hdone _ xs _ (Nat.le_refl _) hS (hI _ _ _ hi (belowPut _ _ _ _ hk)) ((World.putObj_heap_other (by omega)).trans hk.2)⟩
      · exact ⟨some c, _, run_endLoop hk.1 (by simp [rec_]), hstop _ c pre _ (Nat.le_refl _) hSp (hIx _ _ _ _ hi (belowPut _ _ _ _ hk)) ((World.putObj_heap_other (by omega)).trans hk.2)⟩
/-- The marks of loops that have ended, at a function's return. -/
def marks (Ds : List Nat) : List Deferred := Ds.map fun D => { target := .collected D, args := #[] }
theorem leaves_marks {F : Fence} {n : Nat} {P : Program} {fn : Func} {tmps : Array Value} {R : Ending → World → Prop} : ∀ (Ds : List Nat) (W : World), Ds.Nodup → (∀ D, D ∈ Ds → W.heap[D]? = some (.deferred (some []))) →
    (∀ W', Keep (· ∈ Ds) W W' → LeavesIn F n P fn tmps R [] .returning W') → LeavesInM F n P fn tmps R (marks Ds) .returning W
  | [], W, _, _, h => h W (Keep.refl _ _)
  | D :: Ds, W, hn, hd, h => by
    have hD := hd D (List.mem_cons_self ..)
    obtain ⟨n1, n2⟩ := List.nodup_cons.1 hn
    refine ⟨by simp, .inl ⟨D, _, rfl, run_takeDeferred hD, ?_⟩⟩
    have hk : Keep (· ∈ D :: Ds) W (W.putObj D (.deferred none)) := keep_put _ hD (List.mem_cons_self ..)
    refine leaves_marks Ds _ n2 (fun D' h' => (World.putObj_heap_other (fun e => n1 (by rw [← e]; exact h'))).trans (hd D' (List.mem_cons_of_mem _ h'))) fun W' hk' => h W' (hk.trans hk' (fun i _ hi => List.mem_cons_of_mem _ hi))
/-- An append within a round, whose run is known. -/
theorem opIn_append {P : Program} {n l : Nat} {o : Oper} {a : Act} {w w' : World} {K : Act → World → Prop} {Q : Exit → Act → World → Prop} (s x : Operand) (t : TypeId) {v v' x' : Value} {E : Prop} (hgd : o.guard = none) (ops : Array Oper)
    (ho : o.op = .call { callee := .builtin .append, args := #[s, x], argTypes := #[t, t] }) (hs : a.eval s = v) (hx : a.eval x = x')
    (hrun : (Builtin.append_ #[t, t] o.type #[v, x']).run P w = .ok v' w') (h : K (a.put o.dst v') w') :
    if Region.wanted o (yielded ops a.tmps) = true then Oper.wpIn (Fence.wide.inRound l) n P o a w K Q else E := by
  have hw : Region.wanted o (yielded ops a.tmps) = true := by simp [Region.wanted, hgd]
  rw [if_pos hw]
  refine ⟨fun _ _ => trivial, ?_⟩
  rw [Oper.semAt_eq _ _ _ (fun c hc => by rw [ho] at hc; cases hc)]
  unfold execOp
  simp only [ho, resolve, invoke, builtin, Sem.run_bind, Sem.run_pure, Result.andThen_ok, List.map_toArray, List.map_cons, List.map_nil, hs, hx, hrun]
  exact h
end Go.Proofs.Ytnedjmjcbmoknaa.K
