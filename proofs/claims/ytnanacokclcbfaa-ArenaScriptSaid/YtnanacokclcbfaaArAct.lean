/- tenurelaw08.act: a call of both arenas, by its contract. (Printed by wip/bin/mk_aract.py, as XArAct0 to 4.) -/
import Derived.Test.YtnanacokclcbfaaArAct0
import Derived.Test.YtnanacokclcbfaaArAct1
import Derived.Test.YtnanacokclcbfaaArAct2
import Derived.Test.YtnanacokclcbfaaArAct3
import Derived.Test.YtnanacokclcbfaaArAct4
namespace Go.Proofs.Ytnanacokclcbfaa.Ar
open Go.RowKit K
set_option linter.unusedVariables false
theorem act_any (X : Nat → Prop) (w0 : World) (g all n h : Nat) (B : Bks) (kd nd : Int) (A : Option Addr) (c : Nat) (ws : List Int) (W : World) (hD : DA X w0 g all n h B B W) (hn : n ≤ 100) (hl : ws.length ≤ 100) (hR : ∀ wx, Keep (fun k => ¬ X k) w0 wx → Reads wx wx.heap.size 1 A ws.length (wds ws)) (hnd : (Lit.int .i64 nd).wf = true) :
    Calls Try.prog 21 #[.pointer (some ⟨g, 0, none⟩), .pointer (some ⟨h, 0, none⟩), .agg #[.int .i64 kd, .int .i64 nd, .slice A ws.length c]] W fun e w' => e = .returned (.bool true) ∧ ∃ B', DA X w0 g all (n + 1) h B' B' w' := by
  by_cases k0 : kd = 0
  · subst k0
    exact act_0 X w0 g all n h B nd A c ws W hD hn hl hR hnd
  by_cases k1 : kd = 1
  · subst k1
    exact act_1 X w0 g all n h B nd A c ws W hD hn hl hR hnd
  by_cases k2 : kd = 2
  · subst k2
    exact act_2 X w0 g all n h B nd A c ws W hD hn hl hR hnd
  by_cases k3 : kd = 3
  · subst k3
    exact act_3 X w0 g all n h B nd A c ws W hD hn hl hR hnd
  exact act_4 X w0 g all n h B kd nd A c ws W hD hn hl hR hnd k0 k1 k2 k3
end Go.Proofs.Ytnanacokclcbfaa.Ar
