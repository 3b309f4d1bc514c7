/- FxE: one activation, and calls. -/
import Derived.Test.YtaemikglijnihaaGreatDoorFxD
set_option linter.all false
namespace Go.Fx
noncomputable section

inductive AItem where
  | c (a : AC)
  | ib (id : Nat)
  | il (a : AC)
  | br
  | er (l : Nat)

structure Env where
  code : FuncId → Option AFn
  nat : FuncId → Option (List AV → Hp → Option (AV × Hp))

def putD (tm : Tr AV) (dst : Option Nat) (a : AV) : Tr AV :=
  match dst with
  | some d => tm.set a d
  | none => tm

/-- is the operation wanted? none: not known -/
def wantedA (tm : Tr AV) : Option (Nat × Bool) → Option Bool
  | none => some true
  | some (d, want) => match tm.get d with
    | some (.B b) => some (b == want)
    | some _ => some false
    | none => none

def withId : AV → Nat → AV
  | .p _ off, id => .p id off
  | .L _ off l c, id => .L id off l c
  | a, _ => a
def idA : AV → Option Nat
  | .p id _ => some id
  | .L id _ _ _ => some id
  | _ => none
mutual
def eqV : AV → AV → Bool
  | .I k n, .I k' n' => decide (k = k') && feqI n n'
  | .B b, .B b' => b == b'
  | .S n x, .S n' x' => Nat.beq n n' && Nat.beq x x'
  | .p i o, .p i' o' => Nat.beq i i' && Nat.beq o o'
  | .p0, .p0 => true
  | .L i o l c, .L i' o' l' c' => Nat.beq i i' && (Nat.beq o o' && (Nat.beq l l' && Nat.beq c c'))
  | .G i o l c, .G i' o' l' c' => Nat.beq i i' && (Nat.beq o o' && (Nat.beq l l' && Nat.beq c c'))
  | .L0, .L0 => true
  | .M i, .M i' => Nat.beq i i'
  | .M0, .M0 => true
  | .F f a c, .F f' a' c' => Nat.beq f f' && (eqVs a a' && eqVs c c')
  | .FY l, .FY l' => Nat.beq l l'
  | .F0, .F0 => true
  | .E t v, .E t' v' => Nat.beq t t' && eqV v v'
  | .E0, .E0 => true
  | .A l, .A l' => eqVs l l'
  | .T l, .T l' => eqVs l l'
  | _, _ => false
def eqVs : List AV → List AV → Bool
  | [], [] => true
  | a :: l, b :: r => eqV a b && eqVs l r
  | _, _ => false
end
def eqB : AB → AB → Bool
  | .c t ro cs, .c t' ro' cs' => Nat.beq t t' && (ro == ro' && eqVs cs cs')
  | .y t n x op, .y t' n' x' op' => Nat.beq t t' && (Nat.beq n n' && (Nat.beq x x' && (op == op')))
  | _, _ => false

section
variable (call : Res → Hp → Option (AV × Hp))

def doOper (o : AOper) (tm : Tr AV) (H : Hp) : Option (Tr AV × Hp) :=
  match wantedA tm o.guard with
  | some true => match aexec o.op tm H with
    | some (.v a H') => some (putD tm o.dst a, H')
    | some r => match call r H with
      | some (a, H') => some (putD tm o.dst a, H')
      | none => none
    | none => none
  | some false => some (putD tm o.dst (.T []), H)
  | none => none

def doOps : List AOper → Tr AV → Hp → Option (Tr AV × Hp)
  | [], tm, H => some (tm, H)
  | o :: r, tm, H => match doOper call o tm H with
    | some (tm', H') => doOps r tm' H'
    | none => none

/-- the answer of an operation, taken or not -/
def valOper (o : AOper) (tm : Tr AV) (H : Hp) : Option (AV × Hp) :=
  match wantedA tm o.guard with
  | some true => match aexec o.op tm H with
    | some (.v a H') => some (a, H')
    | some r => call r H
    | none => none
  | some false => some (.T [], H)
  | none => none
/-- the answer of a float -/
def valF (o : AOper) (tm : Tr AV) (H : Hp) : Option (AV × Hp) :=
  match wantedA tm o.guard with
  | some true => match aexec o.op tm H with
    | some (.v a H') => some (a, H')
    | _ => none
  | some false => some (.T [], H)
  | none => none
/-- a float, looked at again: does it still give the same? -/
def againOK (tm : Tr AV) (H : Hp) (o : AOper) : Bool :=
  match wantedA tm o.guard, o.dst with
  | some false, _ => true
  | some true, some d => match aexec o.op tm H, tm.get d with
    | some (.v a H'), some b =>
      bif o.op.alloc then
        match idA b with
        | some id => eqV b (withId a id) && (match H'.t.get H.next, H.t.get id with | some x, some y => eqB x y | _, _ => false)
        | none => false
      else eqV a b
    | _, _ => false
  | _, _ => false
/-- a region whose order is drawn -/
def doDraw : List PlanStep → Tr AV → Hp → Option (Tr AV × Hp)
  | [], tm, H => some (tm, H)
  | .f _ o :: p, tm, H => match valF o tm H with
    | some (a, H') => doDraw p (putD tm o.dst a) H'
    | none => none
  | .x _ o again :: p, tm, H => match valOper call o tm H with
    | some (a, H') => bif again.all (againOK (putD tm o.dst a) H') then doDraw p (putD tm o.dst a) H' else none
    | none => none

end

def setArgs : List AV → Nat → Tr AV → Tr AV
  | [], _, tm => tm
  | a :: l, i, tm => setArgs l (Nat.succ i) (tm.set a i)
def setPs (tm : Tr AV) : List Nat → List AV → Option (Tr AV)
  | [], [] => some tm
  | p :: ps, a :: l => setPs (tm.set a p) ps l
  | _, _ => none

def resOf (tm : Tr AV) (H : Hp) : ARes → Option AV
  | .t n => tm.get n
  | .c1 n => match tm.get n with | some (.p id off) => read1 H id off | _ => none
  | .cA n size => match tm.get n with
    | some (.p id off) => (match readN H id off size with | some l => some (.A l) | none => none)
    | _ => none
def ressOf (tm : Tr AV) (H : Hp) : List ARes → Option (List AV)
  | [] => some []
  | r :: l => match resOf tm H r with
    | some a => match ressOf tm H l with | some x => some (a :: x) | none => none
    | none => none
def valOf : List AV → AV
  | [a] => a
  | l => .T l

def exitA (id : Nat) : List AItem → Option (List AItem)
  | .ib j :: k => bif Nat.beq j id then some k else exitA id k
  | _ :: k => exitA id k
  | [] => none

/-- what an activation leaves: a function's slots, and the marks of its loops; a round's answer -/
inductive Left where
  | fn (tm : Tr AV) (ds : List Nat)
  | rd (b : Bool)

def endRd (l : Nat) (jump : Option AC) (H : Hp) : Option (Left × Hp) :=
  match H.t.get l with
  | some (.lp _ _ f tm nt ps a b df) =>
    match jump with
    | none => some (.rd true, H.put l (.lp .ready none f tm nt ps a b df))
    | some j => some (.rd false, H.put l (.lp .done (some j) f tm nt ps a b df))
  | _ => none

def takeMarks : List Nat → Hp → Option Hp
  | [], H => some H
  | d :: l, H => match H.t.get d with
    | some .df => takeMarks l (H.put d .dead)
    | _ => none

/-- an activation is left: by its end (none), by a jump out of it -/
def leaveA (tm : Tr AV) (rd : Option Nat) (ds : List Nat) (H : Hp) (jump : Option AC) : Option (Left × Hp) :=
  match rd with
  | some l => endRd l jump H
  | none => match jump with
    | none => some (.fn tm ds, H)
    | some .ret => some (.fn tm ds, H)
    | _ => none

variable (E : Env)

def callWith (go : Tr AV → List AItem → Option Nat → List Nat → Hp → Option (Left × Hp)) (r : Res) (H : Hp) : Option (AV × Hp) :=
  match r with
  | .v _ _ => none
  | .k f args => match E.nat f with
    | some g => g args H
    | none => match E.code f with
      | none => none
      | some a => bif Nat.ble args.length a.ntmps then
        match go (setArgs args 0 .e) [.c a.body] none [] H with
        | some (.fn tm' ds, H') => match takeMarks ds H' with
          | some H'' => match ressOf tm' H'' a.results with
            | some l => some (valOf l, H'')
            | none => none
          | none => none
        | _ => none
        else none
  | .y l args => match H.t.get l with
    | some (.lp _ _ _ tm0 _ ps a b _) => match setPs tm0 ps args with
      | some tm1 => match go tm1 [.c a, .br, .c b] (some l) [] H with
        | some (.rd v, H') => some (.B v, H')
        | _ => none
      | none => none
    | _ => none

/-- the blocks of a range over a function: the marks' block, the activation's marks, the heap -/
def loopDf (rd : Option Nat) (ds : List Nat) (H : Hp) : Option (Nat × List Nat × Hp) :=
  match rd with
  | some l => match H.t.get l with
    | some (.lp _ _ _ _ _ _ _ _ df) => some (df, ds, H)
    | _ => none
  | none => some (H.next, H.next :: ds, H.new .df)

def act : Nat → Tr AV → List AItem → Option Nat → List Nat → Hp → Option (Left × Hp)
  | 0, _, _, _, _, _ => none
  | n + 1, tm, todo, rd, ds, H =>
    match todo with
    | [] => leaveA tm rd ds H none
    | .ib _ :: k => act n tm k rd ds H
    | .il a :: k => act n tm (.c a :: .il a :: k) rd ds H
    | .br :: k => match rd with
      | some l => match H.t.get l with
        | some (.lp .ready pd f tm0 nt ps a b df) => act n tm k rd ds (H.put l (.lp .busy pd f tm0 nt ps a b df))
        | _ => none
      | none => none
    | .er l :: k => match H.t.get l with
      | some (.lp .ready pd f tm0 nt ps a b df) => act n tm (match pd with | some j => .c j :: k | none => k) rd ds (H.put l (.lp .exhausted pd f tm0 nt ps a b df))
      | some (.lp .done pd f tm0 nt ps a b df) => act n tm (match pd with | some j => .c j :: k | none => k) rd ds (H.put l (.lp .exhausted pd f tm0 nt ps a b df))
      | _ => none
    | .c x :: k => match x with
      | .skip => act n tm k rd ds H
      | .ret => leaveA tm rd ds H (some .ret)
      | .seq a b => act n tm (.c a :: .c b :: k) rd ds H
      | .cond c a b => match ev tm c with
        | some (.B true) => act n tm (.c a :: k) rd ds H
        | some (.B false) => act n tm (.c b :: k) rd ds H
        | _ => none
      | .block id a => act n tm (.c a :: .ib id :: k) rd ds H
      | .loop a => act n tm (.c a :: .il a :: k) rd ds H
      | .exit id => match exitA id k with
        | some k' => act n tm k' rd ds H
        | none => leaveA tm rd ds H (some (.exit id))
      | .reg ops => match doOps (callWith E (act n)) ops tm H with
        | some (tm', H') => act n tm' k rd ds H'
        | none => none
      | .bad => none
      | .draw _ p => match doDraw (callWith E (act n)) p tm H with
        | some (tm', H') => act n tm' k rd ds H'
        | none => none
      | .rf f ps a b => match ev tm f with
        | some (.F g fa fc) => match loopDf rd ds H with
          | some (df, ds', H') => match callWith E (act n) (.k g (fa ++ [.FY H'.next] ++ fc)) (H'.new (.lp .ready none 0 tm 0 ps a b df)) with
            | some (_, H'') => act n tm (.er H'.next :: k) rd ds' H''
            | none => none
          | none => none
        | _ => none

end
end Go.Fx
