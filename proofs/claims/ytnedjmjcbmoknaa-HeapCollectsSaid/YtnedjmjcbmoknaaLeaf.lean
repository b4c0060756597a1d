/- Terms of one part; a row of two terms. -/
import Derived.Test.YtnedjmjcbmoknaaTmMake
namespace Go.Proofs.Ytnedjmjcbmoknaa.K
open Go.RowKit
set_option linter.unusedVariables false
set_option linter.unusedSimpArgs false

/-- A row of two terms just made, of blocks at or behind B. -/
theorem lit2 {w : World} {F : Nat → Prop} {a b : Tm} {k n : Int} {s : ByteArray} {A : Option Addr} {m c : Nat} {k' n' : Int} {s' : ByteArray} {A' : Option Addr} {m' c' : Nat} (ha : TAt w F a (.agg #[.int .i64 k, .int .i64 n, .string s, .slice A m c])) (hb : TAt w F b (.agg #[.int .i64 k', .int .i64 n', .string s', .slice A' m' c'])) (hF : ∀ b, F b → b < w.heap.size) :
    TsAt (w.alloc (.cells #[.int .i64 k, .int .i64 n, .string s, .slice A m c, .int .i64 k', .int .i64 n', .string s', .slice A' m' c'] 28)) (fun b => F b ∨ b = w.heap.size) (some ⟨w.heap.size, 0, none⟩) [a, b] :=
  lit_rowF (vs := [_, _]) (.cons ha (.cons hb .nil)) hF (by simp [maxLen]) _ rfl
theorem leafF (w : World) {F : Nat → Prop} (k n : Int) (s : ByteArray) (hk : (Lit.int .i64 k).wf = true) (hn : (Lit.int .i64 n).wf = true) (hs : s.size ≤ maxLen) : TAt w F (.mk k n s []) (.agg #[.int .i64 k, .int .i64 n, .string s, .slice none 0 0]) :=
  TAt.of (t := .mk k n s []) ⟨hk, hn, hs, Nat.le_refl _, by simp [maxLen], fun _ => rfl⟩ (TsAt.nil _ _ _)
theorem num_leaf (w : World) {F : Nat → Prop} (n : Int) (hn : (Lit.int .i64 n).wf = true) : TAt w F (tnum n) (.agg #[.int .i64 1, .int .i64 n, .string ⟨#[]⟩, .slice none 0 0]) := leafF w 1 n .empty (by decide) hn (by decide)
theorem nil_leaf (w : World) {F : Nat → Prop} : TAt w F tnil (.agg #[.int .i64 8, .int .i64 0, .string ⟨#[]⟩, .slice none 0 0]) := leafF w 8 0 .empty (by decide) (by decide) (by decide)
theorem sym_leaf (w : World) {F : Nat → Prop} (s : ByteArray) (hs : s.size ≤ maxLen) : TAt w F (tsym s) (.agg #[.int .i64 2, .int .i64 0, .string s, .slice none 0 0]) := leafF w 2 0 s (by decide) (by decide) hs
end Go.Proofs.Ytnedjmjcbmoknaa.K
