/- FxB: the compiled form of the code, and what each operation does to abstract values and to the abstract heap. -/
import Derived.Test.YtaemikglijnihaaGreatDoorFxA
set_option linter.all false
namespace Go.Fx
noncomputable section

inductive Opd where
  | t (n : Nat)
  | k (v : AV)
  deriving Inhabited

inductive EqK where
  | bool | ptr | slice | map | func | iface (cst : Bool) | agg (pos : List (Nat × Nat))

inductive AO where
  | mv (x : Opd)
  | pk (c a b : Opd)
  | al (t : TypeId) (z : List AV)
  | bx (t : TypeId) (x : Opd)
  | bl (z : List AV) (ps : List (Nat × Nat × Opd))
  | bs (t : TypeId) (len : Nat) (z : List AV) (ps : List (Nat × Nat × Opd))
  | l1 (x : Opd)
  | lA (n : Nat) (x : Opd)
  | st (n : Nat) (x v : Opd)
  | nc (x : Opd)
  | b2 (op : BinOp) (x y : Opd)
  | eq (neg : Bool) (k : EqK) (x y : Opd)
  | u1 (op : UnOp) (x : Opd)
  | ci (k : IntKind) (x : Opd)
  | sb (t : TypeId) (x : Opd)
  | by (x : Opd)
  | ks (x : Opd)
  | fa (off : Nat) (x : Opd)
  | fl (agg : Bool) (off n : Nat) (x : Opd)
  | ia (len es : Nat) (x i : Opd)
  | ib (es : Nat) (x i : Opd)
  | xa (len es : Nat) (agg : Bool) (x i : Opd)
  | xs (x i : Opd)
  | ln (str : Bool) (x : Opd)
  | mn (xs : List Opd)
  | mx (xs : List Opd)
  | mf (f : FuncId) (a c : List Opd)
  | mi (t : TypeId) (x : Opd)
  | ms (t : TypeId) (bytes : Nat) (z : List AV) (len cap : Opd)
  | ss (x : Opd) (lo hi : Option Opd)
  | sl (es : Nat) (x : Opd) (lo hi mx : Option Opd)
  | sa (len es : Nat) (x : Opd) (lo hi mx : Option Opd)
  | ex (i : Nat) (x : Opd)
  | cs (f : FuncId) (args : List Opd)
  | cv (x : Opd) (args : List Opd)
  | ib1 (x c : Opd)                      -- IndexByteString
  | cb1 (x c : Opd)                      -- CountString
  | ap (t : TypeId) (bytes es : Nat) (u8 : Bool) (x y : Opd)
  | cp (es : Nat) (x y : Opd)
  | rs (x : Opd)
  | nx (x : Opd)
  | mm
  | bad

def Opd.tmps : Opd → List Nat
  | .t n => [n]
  | .k _ => []
def oTmps : Option Opd → List Nat
  | some x => x.tmps
  | none => []
def lTmps : List Opd → List Nat
  | [] => []
  | x :: l => x.tmps ++ lTmps l
def pTmps : List (Nat × Nat × Opd) → List Nat
  | [] => []
  | (_, _, x) :: l => x.tmps ++ pTmps l

def AO.tmps : AO → List Nat
  | .mv x | .bx _ x | .l1 x | .lA _ x | .nc x | .u1 _ x | .ci _ x | .sb _ x | .by x | .ks x | .fa _ x | .fl _ _ _ x | .ln _ x | .mi _ x | .ex _ x | .rs x | .nx x => x.tmps
  | .pk c a b => c.tmps ++ (a.tmps ++ b.tmps)
  | .al _ _ | .mm | .bad => []
  | .bl _ ps | .bs _ _ _ ps => pTmps ps
  | .st _ x y | .b2 _ x y | .eq _ _ x y | .ia _ _ x y | .ib _ x y | .xa _ _ _ x y | .xs x y | .ms _ _ _ x y | .ib1 x y | .cb1 x y | .ap _ _ _ _ x y | .cp _ x y => x.tmps ++ y.tmps
  | .mn u | .mx u | .cs _ u => lTmps u
  | .mf _ a c => lTmps a ++ lTmps c
  | .cv x u => x.tmps ++ lTmps u
  | .ss x lo hi => x.tmps ++ (oTmps lo ++ oTmps hi)
  | .sl _ x lo hi m => x.tmps ++ (oTmps lo ++ (oTmps hi ++ oTmps m))
  | .sa _ _ x lo hi m => x.tmps ++ (oTmps lo ++ (oTmps hi ++ oTmps m))

/-- operations that do not look at the heap -/
def AO.pure : AO → Bool
  | .mv _ | .pk .. | .bl .. | .nc _ | .b2 .. | .eq .. | .u1 .. | .ci .. | .ks _ | .fa .. | .fl .. | .ia .. | .ib .. | .xa .. | .xs .. | .ln .. | .mn _ | .mx _ | .mf .. | .mi .. | .ss .. | .sl .. | .sa .. | .ex .. | .ib1 .. | .cb1 .. => true
  | _ => false
def AO.load : AO → Bool
  | .l1 _ | .lA .. | .by _ => true
  | _ => false
def AO.alloc : AO → Bool
  | .al .. | .ms .. => true
  | _ => false

structure AOper where
  dst : Option Nat
  op : AO
  guard : Option (Nat × Bool)
  fl : Bool

def AOper.tmps (o : AOper) : List Nat :=
  match o.guard with
  | some (d, _) => d :: o.op.tmps
  | none => o.op.tmps

/-- a region whose order is drawn: floats are taken as early as can be; behind an effect, floats that the effect did not wait for are looked at again -/
inductive PlanStep where
  | f (i : Nat) (o : AOper)
  | x (i : Nat) (o : AOper) (again : List AOper)

inductive AC where
  | skip
  | ret
  | seq (a b : AC)
  | cond (c : Opd) (a b : AC)
  | block (id : Nat) (a : AC)
  | loop (a : AC)
  | exit (id : Nat)
  | reg (ops : List AOper)
  | draw (ops : List AOper) (plan : List PlanStep)
  | rf (f : Opd) (params : List Nat) (assign body : AC)
  | bad

inductive ARes where
  | t (n : Nat)
  | c1 (n : Nat)
  | cA (n size : Nat)

structure AFn where
  ntmps : Nat
  results : List ARes
  body : AC

/-! ### Abstract blocks and the heap -/
inductive AB where
  | c (t : TypeId) (ro : Bool) (cs : List AV)
  | g (t : TypeId) (cs : List AV)
  | y (t : TypeId) (n x : Nat) (op : Bool)
  | m (es : List (AV × AV × Nat)) (clock : Nat)
  | si (n x pos : Nat)
  | lp (st : LoopState) (pend : Option AC) (fn : FuncId) (tm : Tr AV) (nt : Nat) (params : List Nat) (assign body : AC) (df : Nat)
  | df
  | dead

def AB.ro : AB → Bool
  | .c _ ro _ => ro
  | _ => false
def AB.isDead : AB → Bool
  | .dead => true
  | _ => false

structure Hp where
  t : Tr AB
  next : Nat

/-! ### integers -/
def lim : IntKind → Nat
  | .i8 => 128 | .i16 => 32768 | .i32 => 2147483648 | .i64 => 9223372036854775808
  | .u8 => 256 | .u16 => 65536 | .u32 => 4294967296 | .u64 => 18446744073709551616

def fwrap (k : IntKind) (n : Int) : Int :=
  match n with
  | .ofNat m => bif Nat.blt m (lim k) then .ofNat m else k.wrap (.ofNat m)
  | .negSucc m => k.wrap (.negSucc m)

theorem fwrap_eq (k : IntKind) (n : Int) : fwrap k n = k.wrap n := by
  cases n with
  | negSucc m => rfl
  | ofNat m =>
    simp only [fwrap]
    cases h : Nat.blt m (lim k)
    · rfl
    · have h' : m < lim k := by simpa [Nat.blt_eq] using h
      simp only [cond_true]
      cases k <;> simp only [lim] at h' <;> simp [IntKind.wrap, IntKind.bits, IntKind.signed] <;> omega

def fltI (a b : Int) : Bool :=
  match a, b with
  | .ofNat m, .ofNat n => Nat.blt m n
  | .ofNat _, .negSucc _ => false
  | .negSucc _, .ofNat _ => true
  | .negSucc m, .negSucc n => Nat.blt n m
theorem fltI_eq (a b : Int) : fltI a b = decide (a < b) := by
  cases a <;> cases b <;> simp only [fltI]
  · rename_i m n; rw [Bool.eq_iff_iff]; simp [Nat.blt_eq]
  · rename_i m n; rw [Bool.eq_iff_iff]; simp; omega
  · rename_i m n; rw [Bool.eq_iff_iff]; simp; omega
  · rename_i m n; rw [Bool.eq_iff_iff]; simp [Nat.blt_eq]; omega
def feqI (a b : Int) : Bool :=
  match a, b with
  | .ofNat m, .ofNat n => Nat.beq m n
  | .negSucc m, .negSucc n => Nat.beq m n
  | _, _ => false
theorem feqI_eq (a b : Int) : feqI a b = (a == b) := by
  cases a <;> cases b <;> simp only [feqI] <;> rw [Bool.eq_iff_iff] <;> simp <;> omega

def icmp (op : BinOp) (x y : Int) : Option Bool :=
  match op with
  | .eql => some (feqI x y)
  | .neq => some (!feqI x y)
  | .lss => some (fltI x y)
  | .leq => some (!fltI y x)
  | .gtr => some (fltI y x)
  | .geq => some (!fltI x y)
  | _ => none

/-- the bits of a number of so many, as a natural number -/
def bitsN (k : IntKind) (x : Int) : Nat :=
  match x with
  | .ofNat m => bif Nat.blt m (lim k) then m else (x % (2 ^ k.bits : Int)).toNat
  | .negSucc _ => (x % (2 ^ k.bits : Int)).toNat

def pow2 (n : Nat) : Nat := Nat.shiftLeft 1 n

def ibin (op : BinOp) (k : IntKind) (x y : Int) : Option Int :=
  match op with
  | .add => some (fwrap k (x + y))
  | .sub => some (fwrap k (x - y))
  | .mul => some (fwrap k (x * y))
  | .quo => bif feqI y 0 then none else some (match x, y with
      | .ofNat a, .ofNat b => fwrap k (.ofNat (Nat.div a b))
      | x, y => fwrap k (x.tdiv y))
  | .rem => bif feqI y 0 then none else some (match x, y with
      | .ofNat a, .ofNat b => .ofNat (Nat.mod a b)
      | x, y => x.tmod y)
  | .and => some (fwrap k (.ofNat (Nat.land (bitsN k x) (bitsN k y))))
  | .or => some (fwrap k (.ofNat (Nat.lor (bitsN k x) (bitsN k y))))
  | .xor => some (fwrap k (.ofNat (Nat.xor (bitsN k x) (bitsN k y))))
  | .andNot => some (fwrap k (.ofNat (Nat.land (bitsN k x) (Nat.sub (Nat.sub (pow2 k.bits) 1) (bitsN k y)))))
  | .shl => bif fltI y 0 then none else some (match x with
      | .ofNat a => fwrap k (.ofNat (Nat.shiftLeft a (Nat.min y.toNat k.bits)))
      | x => fwrap k (x * 2 ^ (Nat.min y.toNat k.bits)))
  | .shr => bif fltI y 0 then none else some (match x with
      | .ofNat a => .ofNat (Nat.shiftRight a (Nat.min y.toNat k.bits))
      | x => x.fdiv (2 ^ (Nat.min y.toNat k.bits)))
  | _ => none

/-! ### strings: n bytes of the number x -/
def byteAt (x i : Nat) : Nat := Nat.mod (Nat.shiftRight x (Nat.mul 8 i)) 256
def cutN (x lo n : Nat) : Nat := Nat.mod (Nat.shiftRight x (Nat.mul 8 lo)) (pow2 (Nat.mul 8 n))
def catN (n x y : Nat) : Nat := Nat.add x (Nat.shiftLeft y (Nat.mul 8 n))
def sbin (op : BinOp) (n x m y : Nat) : Option AV :=
  match op with
  | .add => bif Nat.ble (Nat.add n m) 9223372036854775807 then some (.S (Nat.add n m) (catN n x y)) else none
  | .eql => some (.B (Nat.beq n m && Nat.beq x y))
  | .neq => some (.B (!(Nat.beq n m && Nat.beq x y)))
  | _ => none

/-! ### the heap -/
def Hp.put (H : Hp) (id : Nat) (a : AB) : Hp := { H with t := H.t.set a id }
def Hp.new (H : Hp) (a : AB) : Hp := ⟨H.t.set a H.next, Nat.succ H.next⟩

def takeN : Nat → List AV → Option (List AV)
  | 0, _ => some []
  | _ + 1, [] => none
  | n + 1, a :: l => match takeN n l with | some r => some (a :: r) | none => none
def bytesOf (x : Nat) : Nat → Nat → List AV
  | 0, _ => []
  | n + 1, i => .I .u8 (.ofNat (byteAt x i)) :: bytesOf x n (i + 1)

/-- n cells from a place on -/
def readN (H : Hp) (id off n : Nat) : Option (List AV) :=
  match H.t.get id with
  | some (.c _ _ cs) => takeN n (cs.drop off)
  | some (.g _ cs) => takeN n (cs.drop off)
  | some (.y _ m x _) => bif Nat.ble (Nat.add off n) m then some (bytesOf x n off) else none
  | _ => none
def read1 (H : Hp) (id off : Nat) : Option AV :=
  match H.t.get id with
  | some (.c _ _ cs) => cs[off]?
  | some (.g _ cs) => cs[off]?
  | some (.y _ m x _) => bif Nat.blt off m then some (.I .u8 (.ofNat (byteAt x off))) else none
  | _ => none

/-- cells laid over those from a place on; none: they are not there -/
def over : List AV → Nat → List AV → Option (List AV)
  | cs, _, [] => some cs
  | [], _, _ :: _ => none
  | _ :: cs, 0, v :: vs => match over cs 0 vs with | some r => some (v :: r) | none => none
  | c :: cs, n + 1, v :: vs => match over cs n (v :: vs) with | some r => some (c :: r) | none => none

def byteOfAV : AV → Option Nat
  | .I .u8 (.ofNat m) => bif Nat.blt m 256 then some m else none
  | _ => none
def setByte (x i b : Nat) : Nat :=
  Nat.add (Nat.sub x (Nat.shiftLeft (byteAt x i) (Nat.mul 8 i))) (Nat.shiftLeft b (Nat.mul 8 i))
def setBytes : Nat → Nat → List AV → Option Nat
  | x, _, [] => some x
  | x, i, v :: vs => match byteOfAV v with
    | some b => setBytes (setByte x i b) (i + 1) vs
    | none => none

/-- may an abstract value stand in one cell? -/
def one : AV → Bool
  | .A _ | .T _ => false
  | _ => true

def writeN (H : Hp) (id off : Nat) (vs : List AV) : Option Hp :=
  match vs with
  | [] => some H
  | _ =>
  bif vs.all one then
  match H.t.get id with
  | some (.c t false cs) => match over cs off vs with | some cs' => some (H.put id (.c t false cs')) | none => none
  | some (.g t cs) => match over cs off vs with | some cs' => some (H.put id (.g t cs')) | none => none
  | some (.y t m x op) =>
    bif Nat.ble (Nat.add off vs.length) m then
      match setBytes x off vs with | some x' => some (H.put id (.y t m x' op)) | none => none
    else none
  | _ => none
  else none

end
end Go.Fx
