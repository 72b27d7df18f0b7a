/- 'append(out, xs...)' behind a guard that says yes. No condition. -/
import Derived.Test.YtfpieikheofbgaaKit
import Derived.BigFrame
namespace Go.Proofs.Ytfpieikheofbgaa
open Go.RowKit
theorem wpList_join_w {w : World} {ops : Array Oper} {rest : List Oper} {o : Oper} {a : Act} {Q : Exit → Act → World → Prop} (hw : Region.wanted o (yielded ops a.tmps) = true) (s x : Operand)
    (ho : o.op = .call { callee := .builtin .append, args := #[s, x], argTypes := #[22, 22] })
    {base n c B m d : Nat} {A D : Option Addr} {xs ys : List Int} (hs : a.eval s = .slice A n c) (hown : Own w base A n c xs) (hx : a.eval x = .slice D m d) (hr : Row w B D m d ys)
    (hn : n + m ≤ 1048576) (hb : base ≤ w.heap.size)
    (h : ∀ A' c' w', Own w' base A' (n + m) c' (xs ++ ys) → w.grownBy w' (A.map (·.block)) → Below base w w' → wpList Try.prog ops Q rest (a.put o.dst (.slice A' (n + m) c')) w') : wpList Try.prog ops Q (o :: rest) a w :=
  BigFrame.wpList_want hw fun _ hK => wp_join s x ho hs hown hx hr hn hb fun A' c' w' h1 h2 h3 => hK _ _ (h A' c' w' h1 h2 h3)
end Go.Proofs.Ytfpieikheofbgaa
