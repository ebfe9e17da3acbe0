/- Quotients of products: what fixed and its reference answer, in plain Lean. -/
import Derived.Test.YtiaaiihdamkeaaaA1
namespace Go.Ar
open Go Go.Eng

def negQ (a b c : Int) : Bool := ((decide (a < 0) != decide (b < 0)) != decide (c < 0))
def absQ (a b c : Int) : Nat := a.natAbs * b.natAbs / c.natAbs
def absR (a b c : Int) : Nat := a.natAbs * b.natAbs % c.natAbs
def sgnF (q : Nat) (neg : Bool) : Int × Int := if neg = true ∧ q ≤ 9223372036854775808 then (-(q : Int), 0) else if neg = true ∨ q > 9223372036854775807 then (0, 10) else (q, 0)
/-- up: is it one more, of what is left, and the divisor -/
def quoF (up : Nat → Nat → Bool → Bool) (a b c : Int) : Int × Int :=
  if c = 0 then (0, 2) else sgnF (absQ a b c + (if up (absR a b c) c.natAbs (negQ a b c) = true then 1 else 0)) (negQ a b c)
def upFl (r _b : Nat) (neg : Bool) : Bool := neg && decide (r > 0)
def upRo (r b : Nat) (_neg : Bool) : Bool := decide (r ≥ b - r)
def mulDivF (a b c : Int) : Int × Int := quoF upFl a b c
def roundF (a b c : Int) : Int × Int := quoF upRo a b c
end Go.Ar
