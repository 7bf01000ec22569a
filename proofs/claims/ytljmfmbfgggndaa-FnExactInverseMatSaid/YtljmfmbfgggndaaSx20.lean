/-
  The angle of two float32 numbers, as the run on symbols knows it. Conditions: none.
-/
import Derived.Test.YtljmfmbfgggndaaSx19
namespace Go.Sx
open Go.RowKit Ieee

/-! ### The angle as a term -/
def angA : T := .abs .f64 (.wide (.arg 0))
def angB : T := .abs .f64 (.wide (.arg 1))
def angFY : Atom := .cmp 0 .f32 (.bin 1 (.arg 0) (.arg 0)) (.lit .f32 0)
def angFX : Atom := .cmp 0 .f32 (.bin 1 (.arg 1) (.arg 1)) (.lit .f32 0)
def angY0 : Atom := .cmp 0 .f32 (.arg 0) (.lit .f32 0)
def angX0 : Atom := .cmp 0 .f32 (.arg 1) (.lit .f32 0)
def angGT : Atom := .cmp 3 .f64 angA angB
def angA0 : Atom := .cmp 0 .f64 angA (.lit .f64 0)
def angB0 : Atom := .cmp 0 .f64 angB (.lit .f64 0)
def angYN : Atom := .cmp 1 .f32 (.arg 0) (.lit .f32 0)
def angXN : Atom := .cmp 1 .f32 (.arg 1) (.lit .f32 0)
def angZ (steep : Bool) : T := if steep then .bin 7 angB angA else .bin 7 angA angB
def angZM : T := .bin 7 (.mm 2 angA angB) (.mm 3 angA angB)
def angOne : T := .lit .f64 4607182418800017408
def angR (z : T) : T := .bin 7 z (.bin 4 angOne (.f1 2 (.bin 4 angOne (.bin 6 z z))))
def angS (q : T) : List Nat → T → T
  | [], s => s
  | n :: r, s => angS q r (.bin 5 (.bin 7 angOne (.lit .f64 n)) (.bin 6 q s))
def angNs : List Nat := [4627730092099895296, 4627167142146473984, 4626604192193052672, 4626041242239631360, 4625478292286210048, 4624633867356078080, 4623507967449235456, 4622382067542392832, 4621256167635550208, 4619567317775286272, 4617315517961601024, 4613937818241073152, 4607182418800017408]
def angCore (z : T) : T := .bin 6 (.bin 6 (.lit .f64 4620693217682128896) z) (angS (.bin 6 z z) angNs (.lit .f64 0))
def angSteep (steep : Bool) (t : T) : T := if steep then .bin 5 (.lit .f64 4609753056924675352) t else t
def angLeft (xn : Bool) (t : T) : T := if xn then .bin 5 (.lit .f64 4614256656552045848) t else t
def angLow (yn : Bool) (t : T) : T := if yn then .neg .f64 t else t
def angBody (z : T) (steep xn yn : Bool) : T := angLow yn (angLeft xn (angSteep steep (angCore (angR (angR (angR z))))))

def env1 (y x : CF) : Env := { arg := fun i => if i = 0 then y else x, f1 := stdF1, f2 := fun _ x _ => x }
def cang (E : Env) : CF :=
  if holds E angFY = false ∨ holds E angFX = false then none
  else if holds E angY0 = true ∧ holds E angX0 = true then some 0
  else den E (.narrow (angBody (angZ (holds E angGT)) (holds E angGT) (holds E angXN) (holds E angYN)))
def cangle (y x : CF) : CF := cang (env1 y x)

/-- What the table 'f2' of the environment names. -/
def stdF2 (g : Nat) (x y : CF) : CF :=
  match g with
  | 0 => cangle x y
  | _ => x

/-! ### The runs -/
def nanOut : V → Facts → Bool
  | .sc (.flt k u), _ => Nat.beq (fk k) 0 && T.beq u (.narrow (.lit .f64 9221120237041090561))
  | _, _ => false
def zeroOut : V → Facts → Bool
  | .sc (.flt k u), _ => Nat.beq (fk k) 0 && T.beq u (.lit .f32 0)
  | _, _ => false
def angOut (steep : Bool) : V → Facts → Bool
  | .sc (.flt k u), fs => Nat.beq (fk k) 0 && match look angXN fs, look angYN fs with
    | some xn, some yn => T.beqC u (.narrow (angBody (angZ steep) steep xn yn)) || T.beqC u (.narrow (angBody angZM steep xn yn))
    | _, _ => false
  | _, _ => false
def angFits (z : T) (steep : Bool) : Facts := [(.fits (angBody z steep true true), true), (.fits (angBody z steep true false), true), (.fits (angBody z steep false true), true), (.fits (angBody z steep false false), true)]
def angF1 : Facts := [(angFY, false)]
def angF2 : Facts := [(angFY, true), (angFX, false)]
def angF3 : Facts := [(angFY, true), (angFX, true), (angY0, true), (angX0, true), (angGT, false), (angB0, true)]
def angF4 : Facts := [(angFY, true), (angFX, true), (angY0, false), (angGT, true), (angA0, false)] ++ (angFits (angZ true) true ++ angFits angZM true)
def angF5 : Facts := [(angFY, true), (angFX, true), (angX0, false), (angGT, false), (angB0, false)] ++ (angFits (angZ false) false ++ angFits angZM false)

/-- The five runs of a function that gives the angle. -/
structure AngRuns (P : Program) (S : FuncId → List V → Option Known) (n : Nat) (f : FuncId) : Prop where
  r1 : runA P S n f [.sc (.flt .f32 (.arg 0)), .sc (.flt .f32 (.arg 1))] angF1 nanOut = true
  r2 : runA P S n f [.sc (.flt .f32 (.arg 0)), .sc (.flt .f32 (.arg 1))] angF2 nanOut = true
  r3 : runA P S n f [.sc (.flt .f32 (.arg 0)), .sc (.flt .f32 (.arg 1))] angF3 zeroOut = true
  r4 : runA P S n f [.sc (.flt .f32 (.arg 0)), .sc (.flt .f32 (.arg 1))] angF4 (angOut true) = true
  r5 : runA P S n f [.sc (.flt .f32 (.arg 0)), .sc (.flt .f32 (.arg 1))] angF5 (angOut false) = true
end Go.Sx
