/- FxD: the compiling of a program's functions; one activation of a function. -/
import Derived.Test.YtaemikglijnihaaGreatDoorFxC
set_option linter.all false
namespace Go.Fx
noncomputable section

/-! ### compiling -/
def toAV : Nat → Value → Option AV
  | 0, _ => none
  | _ + 1, .bool b => some (.B b)
  | _ + 1, .int k n => some (.I k n)
  | _ + 1, .string s => some (.S s.data.toList.length (enc s.data.toList))
  | _ + 1, .pointer none => some .p0
  | _ + 1, .slice none 0 0 => some .L0
  | _ + 1, .map none => some .M0
  | _ + 1, .nilFunc => some .F0
  | _ + 1, .nilIface => some .E0
  | n + 1, .agg cs => match go n cs.toList with | some l => some (.A l) | none => none
  | n + 1, .tuple cs => match go n cs.toList with | some l => some (.T l) | none => none
  | n + 1, .iface t v => match toAV n v with | some a => some (.E t a) | none => none
  | _ + 1, _ => none
 where go : Nat → List Value → Option (List AV)
  | _, [] => some []
  | n, v :: l => match toAV n v with
    | some a => match go n l with | some r => some (a :: r) | none => none
    | none => none

def toAVs (l : List Value) : Option (List AV) := toAV.go 20 l

variable (P : Program)

def cOpd : Operand → Option Opd
  | .tmp t => some (.t t)
  | .const v => match toAV 20 v with | some a => some (.k a) | none => none
  | .global g => bif Nat.blt g P.globals.size then some (.k (.p g 0)) else none
  | .func f => some (.k (.F f [] []))
def cOpds : List Operand → Option (List Opd)
  | [] => some []
  | x :: l => match cOpd P x with
    | some a => match cOpds l with | some r => some (a :: r) | none => none
    | none => none
def cOpt : Option Operand → Option (Option Opd)
  | none => some none
  | some x => match cOpd P x with | some a => some (some a) | none => none

def isAggD : TypeDesc → Bool
  | .struct _ | .array _ _ => true
  | _ => false
def sizeT (t : TypeId) : Option Nat := (P.info? t).map (·.size)
def zeroT (t : TypeId) : Option (List AV) :=
  match P.info? t with
  | some i => match i.zero with
    | some z => toAVs z.cells.toList
    | none => none
  | none => none

/-- the cells that a comparison of two values of a type looks at, with their kinds -/
def fieldsL (g : TypeId → Nat → Option (List (Nat × Nat))) (off lim : Nat) : List Field → Option (List (Nat × Nat))
  | [] => some []
  | f :: fs => bif f.name == "_" then none else
    match sizeT P f.type, g f.type (off + f.offset) with
    | some s, some l => bif Nat.ble (f.offset + s) lim && Nat.blt 0 s then
        match fieldsL g off lim fs with | some r => some (l ++ r) | none => none
      else none
    | _, _ => none
def elemsL (g : Nat → Option (List (Nat × Nat))) (s off : Nat) : Nat → Nat → Option (List (Nat × Nat))
  | 0, _ => some []
  | n + 1, i => match g (off + i * s) with
    | some l => match elemsL g s off n (i + 1) with | some r => some (l ++ r) | none => none
    | none => none
def leaves : Nat → TypeId → Nat → Option (List (Nat × Nat))
  | 0, _, _ => none
  | d + 1, t, off => match P.underlying t with
    | some (.struct fs) => match sizeT P t with
      | some m => bif P.stoodInHeld t then none else fieldsL P (leaves d) off m fs.toList
      | none => none
    | some (.array n e) => match sizeT P e, sizeT P t with
      | some s, some m => bif Nat.ble (n * s) m && Nat.blt 0 s then elemsL (leaves d e) s off n 0 else none
      | _, _ => none
    | some .bool => some [(off, 0)]
    | some (.int _) => some [(off, 1)]
    | some .string => some [(off, 2)]
    | _ => none

def fplace (fs : Array Field) (i : Nat) : Option (Nat × Nat) :=
  match fs[i]? with
  | some f => match sizeT P f.type with | some s => some (f.offset, s) | none => none
  | none => none

def cParts (place : Nat → Option (Nat × Nat)) : List (Nat × Operand) → Option (List (Nat × Nat × Opd))
  | [] => some []
  | (i, x) :: l => match place i, cOpd P x with
    | some (o, s), some a => match cParts place l with | some r => some ((o, s, a) :: r) | none => none
    | _, _ => none

def isConstO : Operand → Bool
  | .const _ => true
  | _ => false

def cEq (t : TypeId) (cst : Bool) : Option EqK :=
  match P.underlying t with
  | some .bool => some .bool
  | some (.pointer _) => some .ptr
  | some (.slice _) => some .slice
  | some (.map _ _) => some .map
  | some (.func _ _ _) => some .func
  | some (.interface _) => some (.iface cst)
  | some (.struct _) => bif !(P.eqGuardType P.depth t) then (leaves P 20 t 0).map .agg else none
  | some (.array _ _) => bif !(P.eqGuardType P.depth t) then (leaves P 20 t 0).map .agg else none
  | _ => none

/-- comparisons of what is neither an integer nor a string: by the type -/
def isEqT (t : TypeId) : Bool :=
  match P.underlying t with
  | some (.int _) => false
  | some .string => false
  | _ => true

def cOp (o : Oper) : Option AO :=
  match o.op with
  | .move x | .assign x => (cOpd P x).map .mv
  | .pick c a b => match cOpd P c, cOpd P a, cOpd P b with
    | some c, some a, some b => some (.pk c a b) | _, _, _ => none
  | .alloc t => (zeroT P t).map (.al t)
  | .box t x => (cOpd P x).map (.bx t)
  | .build t ps => match P.underlying t, zeroT P t with
    | some (.struct fs), some z => bif fs.toList.all (fun f => (sizeT P f.type).isSome) then (cParts P (fplace P fs) ps.toList).map (.bl z) else none
    | some (.array _ e), some z => match sizeT P e with
      | some s => (cParts P (fun i => some (i * s, s)) ps.toList).map (.bl z)
      | none => none
    | _, _ => none
  | .buildSlice t len ps => match P.underlying t with
    | some (.slice e) => match sizeT P e, zeroT P e with
      | some s, some z => bif Nat.ble (len * s) 16777216 && Nat.beq z.length s then (cParts P (fun i => some (i * s, s)) ps.toList).map (.bs e len (repA z len)) else none
      | _, _ => none
    | _ => none
  | .load t x => match P.underlying t, sizeT P t, cOpd P x with
    | some d, some n, some x => some (bif isAggD d then .lA n x else .l1 x)
    | _, _, _ => none
  | .store t x v => match sizeT P t, cOpd P x, cOpd P v with
    | some n, some x, some v => some (.st n x v)
    | _, _, _ => none
  | .nilCheck x => (cOpd P x).map .nc
  | .binOp op t x y _ => match cOpd P x, cOpd P y with
    | some a, some b => match op with
      | .eql => bif isEqT P t then match cEq P t (isConstO x || isConstO y) with | some k => some (.eq false k a b) | none => none else some (.b2 op a b)
      | .neq => bif isEqT P t then match cEq P t (isConstO x || isConstO y) with | some k => some (.eq true k a b) | none => none else some (.b2 op a b)
      | _ => some (.b2 op a b)
    | _, _ => none
  | .unOp op _ x => (cOpd P x).map (.u1 op)
  | .convert s d x => match P.underlying s, P.underlying d, cOpd P x with
    | some (.int _), some (.int k), some x => some (.ci k x)
    | some .string, some .string, some x => some (.ks x)
    | some .string, some (.slice e), some x => match P.underlying e with
      | some (.int .u8) => some (.sb e x)
      | _ => none
    | some (.slice e), some .string, some x => match P.underlying e with
      | some (.int .u8) => some (.by x)
      | _ => none
    | _, _, _ => none
  | .makeInterface t x => match P.underlying t, cOpd P x with
    | some (.interface _), _ => none
    | some _, some x => some (.mi t x)
    | _, _ => none
  | .makeFunc (.func f) a c => match cOpds P a.toList, cOpds P c.toList with
    | some a, some c => some (.mf f a c) | _, _ => none
  | .makeMap _ none => some .mm
  | .makeSlice t l c => match P.underlying t with
    | some (.slice e) => match P.info? e, zeroT P e, cOpd P l, cOpd P c with
      | some i, some z, some l, some c => bif Nat.beq z.length i.size then some (.ms e i.bytes z l c) else none
      | _, _, _, _ => none
    | _ => none
  | .slice t x lo hi mx => match cOpd P x, cOpt P lo, cOpt P hi, cOpt P mx with
    | some x, some lo, some hi, some mx => match P.underlying t with
      | some .string => match mx with | none => some (.ss x lo hi) | some _ => none
      | some (.slice e) => bif mx.isNone || hi.isSome then (sizeT P e).map fun s => .sl s x lo hi mx else none
      | some (.array n e) => bif mx.isNone || hi.isSome then (sizeT P e).map fun s => .sa n s x lo hi mx else none
      | _ => none
    | _, _, _, _ => none
  | .fieldAddr s x f => match P.underlying s, cOpd P x with
    | some (.struct fs), some x => match fs[f]? with
      | some f => match sizeT P f.type with
        | some (_ + 1) => some (.fa f.offset x)
        | _ => none
      | none => none
    | _, _ => none
  | .field t x f => match P.underlying t, cOpd P x with
    | some (.struct fs), some x => match fs[f]? with
      | some f => match P.underlying f.type, sizeT P f.type with
        | some d, some n => some (.fl (isAggD d) f.offset n x)
        | _, _ => none
      | none => none
    | _, _ => none
  | .indexAddr t x i => match P.underlying t, cOpd P x, cOpd P i with
    | some (.array n e), some x, some i => (sizeT P e).map fun s => .ia n s x i
    | some (.slice e), some x, some i => (sizeT P e).map fun s => .ib s x i
    | _, _, _ => none
  | .index t x i => match P.underlying t, cOpd P x, cOpd P i with
    | some (.array n e), some x, some i => match P.underlying e, sizeT P e with
      | some d, some s => some (.xa n s (isAggD d) x i)
      | _, _ => none
    | some .string, some x, some i => some (.xs x i)
    | _, _, _ => none
  | .range t x => match P.underlying t, cOpd P x with
    | some .string, some x => some (.rs x)
    | _, _ => none
  | .next it true => (cOpd P it).map .nx
  | .extract x i => (cOpd P x).map (.ex i)
  | .call c => match c.callee, cOpds P c.args.toList with
    | .value (.func f), some args => match P.funcs[f]? with
      | some fn => bif fn.name == "internal/bytealg.IndexByteString" && (fn.body.isNone && (Extern.allNextRows.lookup fn.origin).isNone) then match args with | [x, y] => some (.ib1 x y) | _ => none
        else bif fn.name == "internal/bytealg.CountString" && (fn.body.isNone && (Extern.allNextRows.lookup fn.origin).isNone) then match args with | [x, y] => some (.cb1 x y) | _ => none
        else some (.cs f args)
      | none => none
    | .value x, some args => (cOpd P x).map fun x => .cv x args
    | .builtin .len, some [x] => match c.argTypes[0]? with
      | some t => match P.underlying t with
        | some .string => some (.ln true x)
        | some (.slice _) => some (.ln false x)
        | _ => none
      | none => none
    | .builtin .min, some xs => some (.mn xs)
    | .builtin .max, some xs => some (.mx xs)
    | .builtin .append, some [x, y] => match c.argTypes[0]?, c.argTypes[1]? with
      | some s, some t2 => match P.underlying s, P.underlying t2 with
        | some (.slice _), some (.int _) => none
        | some (.slice e), some _ => match P.info? e, zeroT P e with
          | some i, some z => bif Nat.beq z.length i.size then some (.ap e i.bytes i.size (isU8 z) x y) else none
          | _, _ => none
        | _, _ => none
      | _, _ => none
    | .builtin .copy, some [x, y] => match c.argTypes[0]? with
      | some s => match P.underlying s with
        | some (.slice e) => (sizeT P e).map fun n => .cp n x y
        | _ => none
      | none => none
    | _, _ => none
  | _ => none

def floats (o : Oper) (a : AO) : Bool :=
  (match o.op with | .assign _ => false | _ => true) && ((a.pure || (a.load || a.alloc)) && o.dst.isSome)
def cOper (nt : Nat) (ops : Array Oper) (o : Oper) : Option AOper :=
  match (match o.dst with | some d => bif Nat.blt d nt then some () else none | none => some ()) with
  | none => none
  | some _ => match o.guard with
    | none => some ⟨o.dst, (cOp P o).getD .bad, none, floats o ((cOp P o).getD .bad)⟩
    | some (j, want) => match (ops[j]?).bind (·.dst) with
      | some d => some ⟨o.dst, (cOp P o).getD .bad, some (d, want), floats o ((cOp P o).getD .bad)⟩
      | none => none
def cOpers (nt : Nat) (ops : Array Oper) : List Oper → Option (List AOper)
  | [] => some []
  | o :: l => match cOper P nt ops o with
    | some a => match cOpers nt ops l with | some r => some (a :: r) | none => none
    | none => none

/-! ### regions whose order is drawn -/
def edgesM (md : Region.Mode) (o : Oper) : List Nat := (o.after.toList.filter (Region.binds md)).map (·.on)
def hasB (m i : Nat) : Bool := Nat.testBit m i
def addB (m i : Nat) : Nat := Nat.lor m (pow2 i)
def subB (a b : Nat) : Bool := Nat.beq (Nat.land a b) a
def maskOf (l : List Nat) : Nat := l.foldl addB 0
def memN (t : Nat) : List Nat → Bool
  | [] => false
  | x :: l => bif Nat.beq t x then true else memN t l
def ancOf (tr : Tr Nat) (i : Nat) : Nat := match tr.get i with | some m => m | none => 0
def ancM (tr : Tr Nat) (es : List Nat) : Nat := es.foldl (fun m e => Nat.lor m (Nat.lor (pow2 e) (ancOf tr e))) 0
def ancTr : List Oper → Nat → Tr Nat → Tr Nat
  | [], _, tr => tr
  | o :: l, i, tr => ancTr l (Nat.succ i) (tr.set (ancM tr (edgesM .any o)) i)

/-- an order of a mode's edges, looked for; whether it is one -/
def firstReady (T : Nat) : List (Nat × Nat) → Option Nat
  | [] => none
  | (i, m) :: l => bif !(hasB T i) && subB m T then some i else firstReady T l
def findOrder (ms : List (Nat × Nat)) : Nat → Nat → List Nat
  | 0, _ => []
  | n + 1, T => match firstReady T ms with | some i => i :: findOrder ms n (addB T i) | none => []
def topoOK (ops : Array Oper) (md : Region.Mode) : List Nat → Nat → Bool
  | [], T => Nat.beq T (Nat.sub (pow2 ops.size) 1)
  | i :: r, T => match ops[i]? with
    | some o => subB (maskOf (edgesM md o)) T && topoOK ops md r (addB T i)
    | none => false
def enumL {α : Type} : List α → Nat → List (Nat × α)
  | [], _ => []
  | o :: l, i => (i, o) :: enumL l (Nat.succ i)
def modeOK (ops : Array Oper) (md : Region.Mode) : Bool :=
  topoOK ops md (findOrder ((enumL ops.toList 0).map fun x => (x.1, maskOf (edgesM md x.2))) ops.size 0) 0

section
variable (anc : Nat → Nat)
def pairOK (i : Nat) (a : AOper) (j : Nat) (b : AOper) : Bool :=
  Nat.beq i j || ((bif b.fl then match b.dst with
      | some d => (!(memN d a.tmps) || hasB (anc i) j) && (match a.dst with | some d' => !(Nat.beq d d') | none => true)
      | none => false
    else true) &&
    (bif a.fl && !b.fl then match b.dst with
      | some t => !(memN t a.tmps) || (hasB (anc i) j || hasB (anc j) i)
      | none => true
    else true))
def selfOK (a : AOper) : Bool := !a.fl || (match a.dst with | some d => !(memN d a.tmps) | none => false)
def ancOK (ops : List (Nat × Oper)) : Bool :=
  ops.all fun x => (edgesM .any x.2).all (fun e => Nat.blt e x.1) && Nat.beq (anc x.1) ((edgesM .any x.2).foldl (fun m e => Nat.lor m (Nat.lor (pow2 e) (anc e))) 0)

/-- the plan: floats as early as can be -/
def earlyF (rest : Nat) : List (Nat × AOper) → Nat → List Nat × Nat
  | [], T => ([], T)
  | (i, a) :: l, T => bif a.fl && (!(hasB T i) && Nat.beq (Nat.land (anc i) rest) 0) then
      match earlyF rest l (addB T i) with | (r, T') => (i :: r, T')
    else earlyF rest l T
def orderF (l : List (Nat × AOper)) : List Nat → Nat → List Nat
  | [], T => (earlyF anc 0 l T).1
  | x :: r, T => match earlyF anc (maskOf (x :: r)) l T with
    | (fs, T') => fs ++ x :: orderF l r (addB T' x)
def orderOK (al : List AOper) : List Nat → Nat → Option Nat → Bool
  | [], T, _ => Nat.beq T (Nat.sub (pow2 al.length) 1)
  | i :: r, T, last => match al[i]? with
    | none => false
    | some a => !(hasB T i) && (subB (anc i) T && ((match last with | none => true | some x => hasB (anc i) x) && orderOK al r (addB T i) (bif a.fl then last else some i)))
def mkPlan (al : List AOper) : List Nat → List (Nat × AOper) → Option (List PlanStep)
  | [], _ => some []
  | i :: r, seen => match al[i]? with
    | none => none
    | some a => bif a.fl then
        match mkPlan al r (bif a.op.pure then seen else (i, a) :: seen) with | some p => some (.f i a :: p) | none => none
      else match mkPlan al r seen with
        | some p => some (.x i a ((seen.filter fun x => !(hasB (anc i) x.1)).map (·.2)) :: p)
        | none => none
end

def planOf (ops : Array Oper) (al : List AOper) : Option (List PlanStep) :=
  let tr := ancTr ops.toList 0 .e
  let l := enumL al 0
  let order := orderF (ancOf tr) l ((l.filter fun x => !x.2.fl).map (·.1)) 0
  bif modeOK ops .any && ((bif Region.departs ops then modeOK ops .text && modeOK ops .gc else true) && (ancOK (ancOf tr) (enumL ops.toList 0) &&
      (l.all (fun x => selfOK x.2 && l.all fun y => pairOK (ancOf tr) x.1 x.2 y.1 y.2) && orderOK (ancOf tr) al order 0 none))) then
    mkPlan (ancOf tr) al order []
  else none

def cCode (nt : Nat) : Code → Option AC
  | .skip => some .skip
  | .label _ => some .skip
  | .ret => some .ret
  | .seq a b => match cCode nt a, cCode nt b with | some a, some b => some (.seq a b) | _, _ => none
  | .cond c a b => match cOpd P c, cCode nt a, cCode nt b with | some c, some a, some b => some (.cond c a b) | _, _, _ => none
  | .block id a => (cCode nt a).map (.block id)
  | .loop a => (cCode nt a).map .loop
  | .exit id => some (.exit id)
  | .region _ ops false => (cOpers P nt ops ops.toList).map .reg
  | .region _ ops true => match cOpers P nt ops ops.toList with
    | some l => match planOf ops l with | some p => some (.draw l p) | none => none
    | none => none
  | .rangeFunc f ps a b => match cOpd P f, cCode nt a, cCode nt b with
    | some f, some a, some b => bif ps.toList.all (fun p => Nat.blt p nt) then some (.rf f ps.toList a b) else none
    | _, _, _ => none
  | _ => some .bad

def cRes : List ResultVar → Option (List ARes)
  | [] => some []
  | .tmp t :: l => match cRes l with | some r => some (.t t :: r) | none => none
  | .cell a t :: l => match P.underlying t, sizeT P t, cRes l with
    | some d, some n, some r => some ((bif isAggD d then .cA a n else .c1 a) :: r)
    | _, _, _ => none

def cFn (f : FuncId) : Option AFn :=
  match P.funcs[f]? with
  | some fn => match fn.body with
    | some c => bif fn.name == "runtime.NumGoroutine" then none else
      match cCode P fn.ntmps c, cRes P fn.results.toList with
      | some b, some r => some ⟨fn.ntmps, r, b⟩
      | _, _ => none
    | none => none
  | none => none

end
end Go.Fx
