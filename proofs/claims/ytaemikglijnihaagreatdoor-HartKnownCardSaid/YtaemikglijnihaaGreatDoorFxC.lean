/- FxC: what each compiled operation does. -/
import Derived.Test.YtaemikglijnihaaGreatDoorFxB
set_option linter.all false
namespace Go.Fx
noncomputable section

def ev (tm : Tr AV) : Opd → Option AV
  | .t n => tm.get n
  | .k v => some v
def evs (tm : Tr AV) : List Opd → Option (List AV)
  | [] => some []
  | x :: l => match ev tm x with
    | some a => match evs tm l with | some r => some (a :: r) | none => none
    | none => none
def evI (tm : Tr AV) (x : Opd) : Option Int :=
  match ev tm x with
  | some (.I _ n) => some n
  | _ => none
/-- a number that is not below 0 -/
def evN (tm : Tr AV) (x : Opd) : Option Nat :=
  match ev tm x with
  | some (.I _ (.ofNat n)) => some n
  | _ => none

def cellsA : AV → List AV
  | .A l => l
  | v => [v]

/-- parts laid over cells, each with its place and its size -/
def fillA : List AV → List (Nat × Nat × AV) → Option (List AV)
  | cs, [] => some cs
  | cs, (off, size, v) :: r =>
    bif Nat.beq (cellsA v).length size && Nat.ble (Nat.add off size) cs.length then
      match over cs off (cellsA v) with
      | some cs' => fillA cs' r
      | none => none
    else none
def evParts (tm : Tr AV) : List (Nat × Nat × Opd) → Option (List (Nat × Nat × AV))
  | [] => some []
  | (o, s, x) :: l => match ev tm x with
    | some a => match evParts tm l with | some r => some ((o, s, a) :: r) | none => none
    | none => none

inductive Res where
  | v (a : AV) (H : Hp)
  | k (f : FuncId) (args : List AV)
  | y (l : Nat) (args : List AV)

/-- two cells of a kind: 0: bools, 1: integers, 2: strings -/
def eqLeaf (k : Nat) (a b : AV) : Option Bool :=
  match a, b with
  | .I j m, .I j' n => bif Nat.beq k 1 && decide (j = j') then some (feqI m n) else none
  | .B m, .B n => bif Nat.beq k 0 then some (m == n) else none
  | .S n x, .S m y => bif Nat.beq k 2 then some (Nat.beq n m && Nat.beq x y) else none
  | _, _ => none
def eqPos : List (Nat × Nat) → List AV → List AV → Option Bool
  | [], _, _ => some true
  | (i, k) :: r, xs, ys => match xs[i]?, ys[i]? with
    | some a, some b => match eqLeaf k a b with
      | some true => eqPos r xs ys
      | some false => some false
      | none => none
    | _, _ => none
def eqA (k : EqK) (x y : AV) : Option Bool :=
  match k, x, y with
  | .bool, .B a, .B b => some (a == b)
  | .ptr, .p0, .p0 => some true
  | .ptr, .p0, .p _ _ => some false
  | .ptr, .p _ _, .p0 => some false
  | .slice, .L0, .L0 => some true
  | .slice, .L0, .L .. => some false
  | .slice, .L0, .G .. => some false
  | .slice, .L .., .L0 => some false
  | .slice, .G .., .L0 => some false
  | .map, .M0, .M0 => some true
  | .map, .M0, .M _ => some false
  | .map, .M _, .M0 => some false
  | .func, .F0, .F0 => some true
  | .func, .F0, .F .. => some false
  | .func, .F .., .F0 => some false
  | .iface c, .E0, .E0 => bif c then some true else none
  | .iface _, .E0, .E .. => some false
  | .iface _, .E .., .E0 => some false
  | .iface _, .E t _, .E u _ => bif Nat.beq t u then none else some false
  | .agg l, .A a, .A b => eqPos l a b
  | _, _, _ => none

def minI (a : AV) : List AV → Option AV
  | [] => some a
  | b :: r => match a, b with
    | .I k x, .I _ y => minI (.I k (bif fltI y x then y else x)) r
    | _, _ => none
def maxI (a : AV) : List AV → Option AV
  | [] => some a
  | b :: r => match a, b with
    | .I k x, .I _ y => maxI (.I k (bif fltI x y then y else x)) r
    | _, _ => none

def packB : List AV → Option Nat
  | [] => some 0
  | a :: l => match byteOfAV a, packB l with
    | some b, some x => some (Nat.add b (Nat.mul 256 x))
    | _, _ => none
/-- n bytes from a place on, as a string's number -/
def readS (H : Hp) (id off n : Nat) : Option Nat :=
  match H.t.get id with
  | some (.y _ m x _) => bif Nat.ble (Nat.add off n) m then some (cutN x off n) else none
  | some (.c _ _ cs) => match takeN n (cs.drop off) with | some l => packB l | none => none
  | some (.g _ cs) => match takeN n (cs.drop off) with | some l => packB l | none => none
  | _ => none

def repA (z : List AV) : Nat → List AV
  | 0 => []
  | n + 1 => z ++ repA z n

def isU8 : List AV → Bool
  | [.I .u8 0] => true
  | _ => false

/-- what is appended, or copied: how many, and a block's cells -/
def srcOf (H : Hp) (es : Nat) : AV → Option (Nat × List AV)
  | .L0 => some (0, [])
  | .L id off len _ => match readN H id off (Nat.mul len es) with | some l => some (len, l) | none => none
  | .G id off len _ => match readN H id off (Nat.mul len es) with | some l => some (len, l) | none => none
  | .S n x => some (n, bytesOf x n 0)
  | _ => none

def idxB (x c : Nat) : Nat → Nat → Option Nat
  | 0, _ => none
  | n + 1, i => bif Nat.beq (byteAt x i) c then some i else idxB x c n (Nat.succ i)
def cntB (x c : Nat) : Nat → Nat → Nat → Nat
  | 0, _, a => a
  | n + 1, i, a => cntB x c n (Nat.succ i) (bif Nat.beq (byteAt x i) c then Nat.succ a else a)

def optN (tm : Tr AV) (d : Nat) : Option Opd → Option Nat
  | none => some d
  | some x => evN tm x

def ok (a : AV) (H : Hp) : Option Res := some (.v a H)

def doSlice (es : Nat) (x : AV) (tm : Tr AV) (lo hi mx : Option Opd) (H : Hp) : Option Res :=
  match x with
  | .L0 => match optN tm 0 lo, optN tm 0 hi, optN tm 0 mx with
    | some 0, some 0, some 0 => ok .L0 H
    | _, _, _ => none
  | .L id off len cap => match optN tm 0 lo, optN tm len hi, optN tm cap mx with
    | some l, some h, some m =>
      bif Nat.ble l h && (Nat.ble h m && Nat.ble m cap) then
        ok (.L id (bif Nat.beq m l then off else Nat.add off (Nat.mul l es)) (Nat.sub h l) (Nat.sub m l)) H
      else none
    | _, _, _ => none
  | .G id off len es' => match mx with
    | some m => match optN tm 0 lo, optN tm len hi, evN tm m with
      | some l, some h, some m =>
        bif Nat.ble l h && (Nat.ble h m && Nat.ble m len) then
          ok (.L id (bif Nat.beq m l then off else Nat.add off (Nat.mul l es)) (Nat.sub h l) (Nat.sub m l)) H
        else none
      | _, _, _ => none
    | none => match optN tm 0 lo, optN tm len hi with
      | some l, some h =>
        bif Nat.beq es es' && (Nat.ble l h && (Nat.ble h len && (Nat.blt l len || Nat.beq l 0))) then
          ok (.G id (Nat.add off (Nat.mul l es)) (Nat.sub h l) es) H
        else none
      | _, _ => none
  | _ => none

/-- a new block behind an append -/
def grown (t : TypeId) (u8 : Bool) (es need : Nat) (cs : List AV) (H : Hp) : Option Res :=
  bif u8 then match packB cs with
    | some x => ok (.G H.next 0 need 1) (H.new (.y t need x true))
    | none => none
  else bif cs.all one then ok (.G H.next 0 need es) (H.new (.g t cs)) else none

def fitsB (n bytes : Nat) : Bool := Nat.ble (Nat.mul n bytes) 140737488355328 && Nat.ble n 9223372036854775807
/-- is a block one that an append made, of this element type? -/
def growT (t : TypeId) : Option AB → Bool
  | some (.g t' _) => Nat.beq t' t
  | some (.y t' _ _ _) => Nat.beq t' t
  | _ => false

def doAppend (t : TypeId) (bytes es : Nat) (u8 : Bool) (x y : AV) (H : Hp) : Option Res :=
  match srcOf H es y with
  | none => none
  | some (n, new) =>
  bif !(Nat.beq new.length (Nat.mul n es)) then none else
  match x with
  | .L0 => bif Nat.beq n 0 then ok .L0 H else
      bif fitsB n bytes then grown t u8 es n new H else none
  | .L id off len cap =>
    let need := Nat.add len n
    bif Nat.ble need cap then
      match writeN H id (Nat.add off (Nat.mul len es)) new with
      | some H' => ok (.L id off need cap) H'
      | none => none
    else bif fitsB need bytes then
      match readN H id off (Nat.mul len es) with
      | some old => grown t u8 es need (old ++ new) H
      | none => none
    else none
  | .G id off len es' =>
    let need := Nat.add len n
    bif Nat.beq n 0 then ok x H else
    bif Nat.beq off 0 && (Nat.beq es es' && fitsB need bytes) && growT t (H.t.get id) then
      match readN H id 0 (Nat.mul len es) with
      | some old => grown t u8 es need (old ++ new) (H.put id .dead)
      | none => none
    else none
  | _ => none

def doCopy (es : Nat) (x y : AV) (H : Hp) : Option Res :=
  match srcOf H es y with
  | none => none
  | some (n, new) =>
  bif !(Nat.beq new.length (Nat.mul n es)) then none else
  match x with
  | .L0 => ok (.I .i64 0) H
  | .L id off len _ => match takeN (Nat.mul (Nat.min n len) es) new with
    | some l => match writeN H id off l with | some H' => ok (.I .i64 (.ofNat (Nat.min n len))) H' | none => none
    | none => none
  | .G id off len _ => match takeN (Nat.mul (Nat.min n len) es) new with
    | some l => match writeN H id off l with | some H' => ok (.I .i64 (.ofNat (Nat.min n len))) H' | none => none
    | none => none
  | _ => none

def u8T : AV → Bool
  | .S .. => true
  | _ => false

def aexec (o : AO) (tm : Tr AV) (H : Hp) : Option Res :=
  match o with
  | .mv x => match ev tm x with | some a => ok a H | none => none
  | .pk c a b => match ev tm c with
    | some (.B true) => match ev tm a with | some v => ok v H | none => none
    | some (.B false) => match ev tm b with | some v => ok v H | none => none
    | _ => none
  | .al t z => ok (.p H.next 0) (H.new (.c t false z))
  | .bx t x => match ev tm x with
    | some a => bif (cellsA a).all one then ok (.p H.next 0) (H.new (.c t false (cellsA a))) else none
    | none => none
  | .bl z ps => match evParts tm ps with
    | some l => match fillA z l with | some cs => ok (.A cs) H | none => none
    | none => none
  | .bs t len z ps => match evParts tm ps with
    | some l => match fillA z l with
      | some cs => bif cs.all one then ok (.L H.next 0 len len) (H.new (.c t false cs)) else none
      | none => none
    | none => none
  | .l1 x => match ev tm x with
    | some (.p id off) => match read1 H id off with | some a => ok a H | none => none
    | _ => none
  | .lA n x => match ev tm x with
    | some (.p id off) => match readN H id off n with | some l => ok (.A l) H | none => none
    | _ => none
  | .st n x v => match ev tm x, ev tm v with
    | some (.p id off), some a => bif Nat.beq (cellsA a).length n then
        match writeN H id off (cellsA a) with | some H' => ok (.T []) H' | none => none
      else none
    | _, _ => none
  | .nc x => match ev tm x with
    | some (.p id off) => ok (.p id off) H
    | some (.F f a c) => ok (.F f a c) H
    | some (.FY l) => ok (.FY l) H
    | some (.E t v) => ok (.E t v) H
    | _ => none
  | .b2 op x y => match ev tm x, ev tm y with
    | some (.I k a), some (.I k' b) => match op with
      | .shl => match ibin .shl k a b with | some c => ok (.I k c) H | none => none
      | .shr => match ibin .shr k a b with | some c => ok (.I k c) H | none => none
      | op => bif decide (k = k') then match icmp op a b with
        | some c => ok (.B c) H
        | none => match ibin op k a b with | some c => ok (.I k c) H | none => none
        else none
    | some (.S n a), some (.S m b) => match sbin op n a m b with | some c => ok c H | none => none
    | _, _ => none
  | .eq neg k x y => match ev tm x, ev tm y with
    | some a, some b => match eqA k a b with | some r => ok (.B (bif neg then !r else r)) H | none => none
    | _, _ => none
  | .u1 op x => match op, ev tm x with
    | .not, some (.B b) => ok (.B (!b)) H
    | .neg, some (.I k n) => match ibin .sub k 0 n with | some c => ok (.I k c) H | none => none
    | .xor, some (.I k n) => match ibin .xor k (bif k.signed then -1 else k.max) n with | some c => ok (.I k c) H | none => none
    | _, _ => none
  | .ci k x => match ev tm x with
    | some (.I _ n) => ok (.I k (fwrap k n)) H
    | _ => none
  | .sb t x => match ev tm x with
    | some (.S n x) => ok (.G H.next 0 n 1) (H.new (.y t n x true))
    | _ => none
  | .by x => match ev tm x with
    | some .L0 => ok (.S 0 0) H
    | some (.L id off len _) => match readS H id off len with | some v => ok (.S len v) H | none => none
    | some (.G id off len _) => match readS H id off len with | some v => ok (.S len v) H | none => none
    | _ => none
  | .ks x => match ev tm x with
    | some (.S n x) => ok (.S n x) H
    | _ => none
  | .fa off x => match ev tm x with
    | some (.p id o) => ok (.p id (Nat.add o off)) H
    | _ => none
  | .fl agg off n x => match ev tm x with
    | some (.A cs) => bif agg then match takeN n (cs.drop off) with | some l => ok (.A l) H | none => none
      else match cs[off]? with | some a => ok a H | none => none
    | _ => none
  | .ia len es x i => match ev tm x, evN tm i with
    | some (.p id o), some i => bif Nat.blt i len then ok (.p id (Nat.add o (Nat.mul i es))) H else none
    | _, _ => none
  | .ib es x i => match ev tm x, evN tm i with
    | some (.L id o len _), some i => bif Nat.blt i len then ok (.p id (Nat.add o (Nat.mul i es))) H else none
    | some (.G id o len _), some i => bif Nat.blt i len then ok (.p id (Nat.add o (Nat.mul i es))) H else none
    | _, _ => none
  | .xa len es agg x i => match ev tm x, evN tm i with
    | some (.A cs), some i => bif Nat.blt i len then
        bif agg then match takeN es (cs.drop (Nat.mul i es)) with | some l => ok (.A l) H | none => none
        else match cs[Nat.mul i es]? with | some a => ok a H | none => none
      else none
    | _, _ => none
  | .xs x i => match ev tm x, evN tm i with
    | some (.S n x), some i => bif Nat.blt i n then ok (.I .u8 (.ofNat (byteAt x i))) H else none
    | _, _ => none
  | .ln str x => match str, ev tm x with
    | true, some (.S n _) => ok (.I .i64 (.ofNat n)) H
    | false, some (.L _ _ len _) => ok (.I .i64 (.ofNat len)) H
    | false, some (.G _ _ len _) => ok (.I .i64 (.ofNat len)) H
    | false, some .L0 => ok (.I .i64 0) H
    | _, _ => none
  | .mn xs => match evs tm xs with
    | some (a :: l) => match minI a l with | some v => ok v H | none => none
    | _ => none
  | .mx xs => match evs tm xs with
    | some (a :: l) => match maxI a l with | some v => ok v H | none => none
    | _ => none
  | .mf f a c => match evs tm a, evs tm c with
    | some a, some c => ok (.F f a c) H
    | _, _ => none
  | .mi t x => match ev tm x with | some a => ok (.E t a) H | none => none
  | .ms t bytes z len cap => match evN tm len, evN tm cap with
    | some l, some c => bif Nat.ble l c && (Nat.ble (Nat.mul bytes c) 281474976710656 && Nat.ble c 9223372036854775807) then
        bif isU8 z then ok (.L H.next 0 l c) (H.new (.y t c 0 false))
        else ok (.L H.next 0 l c) (H.new (.c t false (repA z c)))
      else none
    | _, _ => none
  | .ss x lo hi => match ev tm x with
    | some (.S n x) => match optN tm 0 lo, optN tm n hi with
      | some l, some h => bif Nat.ble l h && Nat.ble h n then ok (.S (Nat.sub h l) (cutN x l (Nat.sub h l))) H else none
      | _, _ => none
    | _ => none
  | .sl es x lo hi mx => match ev tm x with | some a => doSlice es a tm lo hi mx H | none => none
  | .sa len es x lo hi mx => match ev tm x with
    | some (.p id off) => doSlice es (.L id off len len) tm lo hi mx H
    | _ => none
  | .ex i x => match ev tm x with
    | some (.T vs) => match vs[i]? with | some a => ok a H | none => none
    | _ => none
  | .cs f args => match evs tm args with | some l => some (.k f l) | none => none
  | .cv x args => match ev tm x, evs tm args with
    | some (.F f a c), some l => some (.k f (a ++ l ++ c))
    | some (.FY lp), some l => some (.y lp l)
    | _, _ => none
  | .ib1 x c => match ev tm x, ev tm c with
    | some (.S n x), some c => match byteOfAV c with
      | some m => (match idxB x m n 0 with
        | some i => ok (.I .i64 (.ofNat i)) H
        | none => ok (.I .i64 (-1)) H)
      | none => none
    | _, _ => none
  | .cb1 x c => match ev tm x, ev tm c with
    | some (.S n x), some c => match byteOfAV c with
      | some m => ok (.I .i64 (.ofNat (cntB x m n 0 0))) H
      | none => none
    | _, _ => none
  | .ap t bytes es u8 x y => match ev tm x, ev tm y with
    | some a, some b => doAppend t bytes es u8 a b H
    | _, _ => none
  | .cp es x y => match ev tm x, ev tm y with
    | some a, some b => doCopy es a b H
    | _, _ => none
  | .rs x => match ev tm x with
    | some (.S n x) => ok (.p H.next 0) (H.new (.si n x 0))
    | _ => none
  | .nx x => match ev tm x with
    | some (.p id 0) => match H.t.get id with
      | some (.si n x pos) => bif Nat.blt pos n then
          bif Nat.blt (byteAt x pos) 128 then
            ok (.T [.B true, .I .i64 (.ofNat pos), .I .i32 (.ofNat (byteAt x pos))]) (H.put id (.si n x (Nat.succ pos)))
          else none
        else ok (.T [.B false]) H
      | _ => none
    | _ => none
  | .mm => ok (.M H.next) (H.new (.m [] 0))
  | .bad => none

end
end Go.Fx
