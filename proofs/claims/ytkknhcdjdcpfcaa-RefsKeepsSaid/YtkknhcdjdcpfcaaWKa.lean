/- What the walk of RefsKeeps is made of. -/
import Derived.Test.YtkknhcdjdcpfcaaInst
import Derived.Test.YtkknhcdjdcpfcaaPKeeps
import Derived.Test.YtkknhcdjdcpfcaaXSn
namespace Go.Proofs.Ytkknhcdjdcpfcaa
open Go.Sl Go.Iso
set_option linter.all false

theorem join1 {X : Prop} {α : Type} {Pr : α → Prop} {Z : α → Prop} (h : (∀ v, Pr v → Z v) → X) (z : ∀ v, Pr v → Z v) : X := h z
theorem join3 {X : Prop} {α γ : Type} {Pr : α → γ → Prop} {Z : α → γ → Prop} (h : (∀ v u, Pr v u → Z v u) → X) (z : ∀ v u, Pr v u → Z v u) : X := h z
/-- A place in a code: 0, 1: the halves of a sequence; 2: what is in a block or a loop. -/
def nv : List Nat → Code → Code
  | [], c => c
  | 0 :: p, .seq a _ => nv p a
  | 1 :: p, .seq _ b => nv p b
  | 2 :: p, .block _ b => nv p b
  | 2 :: p, .loop b => nv p b
  | _, c => c
noncomputable def keepsBody : Code := (Try.f3.body).getD .skip
abbrev keepsR : Value → List SP → Prop := fun v _ => v = .bool true
noncomputable abbrev lp0 : Code := nv [1,1,1,1,1,1,1,1,1,1,0,1,2,2] keepsBody
noncomputable abbrev rs0 : Code := nv [1,1,1,1,1,1,1,1,1,1,1] keepsBody
noncomputable abbrev lp2 : Code := nv [1,1,1,1,1,1,1,1,1,1,1,1,1,1,1,1,0,1,2,2] keepsBody
noncomputable abbrev rs2 : Code := nv [1,1,1,1,1,1,1,1,1,1,1,1,1,1,1,1,1] keepsBody
end Go.Proofs.Ytkknhcdjdcpfcaa
