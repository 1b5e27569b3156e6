/- A part of the proof: AbsF. -/
import Derived.Test.YtncbkgbdpaibmaaAbs0
import Derived.OrdersIn
import Derived.CallsIn

namespace Abs
open Go
def FX (ro : Option Nat) : Fence := { Fence.wide with round := ro }
theorem callsFX {ro : Option Nat} {n : Nat} {P : Program} {f : FuncId} {args : Array Value} {w : World} {R : Ending → World → Prop} : CallsIn (FX ro) n P f args w R ↔ Calls P f args w R :=
  callsIn_wide
theorem roundFX {ro : Option Nat} {n : Nat} {P : Program} {l : Nat} {f : FuncId} {tmps : Array Value} {assign body : Code} {w : World} {R : Ending → World → Prop} : RoundIn (FX ro) n P l f tmps assign body w R ↔ RoundIn Fence.wide n P l f tmps assign body w R :=
  Iff.rfl
theorem FX_round (ro : Option Nat) : (FX ro).round = ro := rfl
theorem FX_depth {ro : Option Nat} {p : Prop} (h : (FX ro).depth.isSome = true) : p := by simp [FX, Fence.wide] at h
section
variable {ro : Option Nat} {n : Nat} {P : Program} {o : Oper} {a : Act} {w w1 : World} {next : Act → World → Prop} {Q : Exit → Act → World → Prop}
theorem wpIn_of_run (hop : ∀ c, o.op ≠ .defer c) {r : Result Next} (hrun : (execOp a.eval o).run P w = r) (h : o.uponIn (FX ro) n P a next Q r) : o.wpIn (FX ro) n P a w next Q := by
  refine ⟨fun _ _ => trivial, ?_⟩
  rw [Oper.semAt_eq _ _ _ hop, hrun]
  exact h
theorem value_wpIn (hop : ∀ c, o.op ≠ .defer c) {v : Value} (hrun : (execOp a.eval o).run P w = .ok (.value v) w1) (h : next (a.put o.dst v) w1) : o.wpIn (FX ro) n P a w next Q :=
  wpIn_of_run hop hrun h
theorem skip_wpIn (hop : ∀ c, o.op ≠ .defer c) (hrun : (execOp a.eval o).run P w = .ok .skip w1) (h : next (a.put o.dst Go.undef) w1) : o.wpIn (FX ro) n P a w next Q :=
  wpIn_of_run hop hrun h
def upon (o : Oper) (a : Act) (next : Act → World → Prop) (Q : Exit → Act → World → Prop) : Ending → World → Prop
  | .returned v, w'' => next (a.put o.dst v) w''
  | .panicked chain, w'' => Q (.panic chain) a w''
  | .outgrown, _ => LetsOut Q
theorem enter_wpIn (hop : ∀ c, o.op ≠ .defer c) {f : FuncId} {args : Array Value} (hrun : (execOp a.eval o).run P w = .ok (.enter f args) w1) (h : Calls P f args w1 (upon o a next Q)) : o.wpIn (FX ro) n P a w next Q := by
  refine wpIn_of_run hop hrun ?_
  rw [Oper.uponIn_enter]
  refine ⟨fun h => FX_depth h, callsFX.2 (h.mono fun e w h => ?_)⟩
  cases e <;> exact h
theorem round_wpIn (hop : ∀ c, o.op ≠ .defer c) {l : Nat} {f : FuncId} {tmps : Array Value} {assign body : Code} (hrun : (execOp a.eval o).run P w = .ok (.round l f tmps assign body) w1)
    (h : ∀ n, RoundIn Fence.wide n P l f tmps assign body w1 (upon o a next Q)) : o.wpIn (FX ro) n P a w next Q := by
  refine wpIn_of_run hop hrun ?_
  rw [Oper.uponIn_round]
  refine ⟨fun h => FX_depth h, (roundFX.2 (h _)).mono fun e w h => ?_⟩
  cases e <;> exact h
end
end Abs

