/- Words: append under a guard. No program. -/
import Derived.Test.YtpklfhefhfkkhaaWords4
namespace Go.Proofs.Ytpklfhefhfkkhaa
open Go.RowKit

theorem wpList_append_rdg {α : Type} {P : Program} {cs : α → List Value} {sz : Nat} {t e : TypeId} {bytes : Nat} (E : ElemT P cs sz t e bytes) (w : World) {ops : Array Oper} {rest : List Oper} {o : Oper} {a : Act} {Q : Exit → Act → World → Prop} (hgd : Region.wanted o (yielded ops a.tmps) = true) (s x : Operand)
    (ho : o.op = .call { callee := .builtin .append, args := #[s, x], argTypes := #[t, t] })
    {base : Nat} {v : Value} {l : List α} (hs : a.eval s = v) (hown : Own cs sz e w base v l)
    {lo : Nat} {A : Option Addr} {m c : Nat} {r : List α} (hx : a.eval x = .slice A m c) (hr : Rd cs sz w lo A m r) (hb : (l.length + m) * bytes ≤ 140737488355328) (hbase : base ≤ w.heap.size)
    (h : ∀ v' w', Own cs sz e w' base v' (l ++ r) → w.grownBy w' v.ownBlock → (v'.ownBlock = v.ownBlock ∨ v'.ownBlock = some w.heap.size) → wpList P ops Q rest (a.put o.dst v') w') : wpList P ops Q (o :: rest) a w :=
  wpList_step fun K hK => by
    rw [if_pos hgd]
    exact wp_append_rd E w s x ho hs hown hx hr hb hbase fun v' w' h2 h3 h4 => hK _ _ (h v' w' h2 h3 h4)
end Go.Proofs.Ytpklfhefhfkkhaa
