/- The abstract evaluator: values without addresses, memory by ids, answers by continuations. Own work, program-independent: no statement of the program stands here. -/
import Derived.Test.YtbakldcbaikgpaaGreatDoorGlb
namespace Go.Proofs.YtbakldcbaikgpaaGreatDoor
/-- Abstract values. rf, rv, mt: how variables and lists are handed over to be written, and come back; wv: a part of a list of one's own; rts: points that are remembered. -/
inductive AV where
  | dead
  | bool (b : Bool)
  | int (k : IntKind) (n : Int)
  | ints (n : Nat) (k : IntKind) (l : List Int)
  | prs (n : Nat) (k : IntKind) (l : List (Int × Int))
  | st (ps : List AV)
  | tup (ps : List AV)
  | ptr (id i e f : Nat)
  | pt (c : AV) (i e f : Nat)
  | nilp
  | wsl (id : Nat)
  | sl (c : AV)
  | osl (e : TypeId) (c : AV)
  | nils
  | func (f : FuncId)
  | iface (t : TypeId) (v : AV)
  | nili
  | con (v : Value)
  | rf (e : TypeId) (c : AV)
  | rv (t : TypeId) (lo n e : Nat) (c : AV)
  | mt (r : AV) (cs : List AV)
  | wv (id lo n e : Nat)
  | rts
  deriving Inhabited
mutual
def AV.sz : AV → Nat
  | .ints n _ _ => n
  | .prs n _ _ => 2 * n
  | .st ps => AV.szs ps
  | _ => 1
def AV.szs : List AV → Nat
  | [] => 0
  | p :: ps => p.sz + AV.szs ps
end
/-- How many elements a typed content has. -/
def AV.cnt : AV → Nat
  | .ints n _ _ => n
  | .prs n _ _ => n
  | _ => 0
/-- Of how many cells an element of a list's content is. -/
def AV.esz : AV → Nat
  | .ints _ _ _ => 1
  | .prs _ _ _ => 2
  | _ => 0
/-- Has it cells of its own, as a struct or an array has? -/
def AV.comp : AV → Bool
  | .ints _ _ _ | .prs _ _ _ | .st _ => true
  | _ => false
/-- May it lie in memory, or be handed over? -/
def AV.live : AV → Bool
  | .dead | .tup _ | .osl _ _ | .rf _ _ | .rv _ _ _ _ _ | .mt _ _ => false
  | _ => true
/-- The shape of a type, as far as the evaluator asks. -/
inductive TD where
  | int (k : IntKind)
  | bool
  | slice (e : TypeId)
  | arr (n : Nat) (e : TypeId)
  | struct (fs : List (TypeId × Nat))
  | iface
  | str
  | other
structure TE where
  td : TD
  size : Nat
  bytes : Nat
  zero : AV
  cmp : Bool
structure Blk where
  e : TypeId
  own : Bool
  c : AV
structure AS where
  t : Nat → AV
  m : Nat → Option Blk
  c : Nat → Nat
/-- A callee's answer. -/
structure Ent where
  frz : Bool
  wr : Bool
  go : (R : Type) → Nat → List AV → (AV → Option R) → Option R
structure Hint where
  fuel : Option Nat
  keep : List Nat
  refs : List (Nat × Nat × TypeId × AV)
/-- A loop's law: what it makes of what is kept. Ways out: 0 its own end, 1 return, j + 2 the end of block j. -/
structure LEnt where
  inn : Hint
  out : Hint
  ret : Hint
  go : (R : Type) → Nat → List AV → (Nat → List AV → Option R) → Option R
structure Env where
  nt : Nat
  n : Nat
  ty : List (TypeId × TE)
  orc : List (FuncId × Ent)
  hint : List (Nat × Hint)
  lorc : List (Nat × LEnt)
def nodupB : List Nat → Bool
  | [] => true
  | x :: r => !(r.any (Nat.beq x)) && nodupB r
def mkId (d v : Nat) : Nat := d + 10000 * v
/-- Is it the name of what was handed over to be written? -/
def isMut (id : Nat) : Bool := Nat.ble 8000 id && Nat.blt id 9000
structure Eff where
  v : AV
  up : List (Nat × Option Blk)
  nw : List Nat
  rd : List Nat
def val (v : AV) : Eff := ⟨v, [], [], []⟩
def upd {α : Type} (f : Nat → α) (i : Nat) (x : α) : Nat → α := fun j => bif Nat.beq j i then x else f j
def ups (m : Nat → Option Blk) : List (Nat × Option Blk) → Nat → Option Blk
  | [] => m
  | (i, b) :: r => upd (ups m r) i b
def bumps (c : Nat → Nat) : List Nat → Nat → Nat
  | [] => c
  | d :: r => upd (bumps c r) d (bumps c r d + 1)
def AS.put (s : AS) (dst : Option Tmp) (e : Eff) : AS :=
  { t := match dst with
      | some d => upd s.t d e.v
      | none => s.t
    m := ups s.m e.up
    c := bumps s.c e.nw }
def ofVal : Value → AV
  | .bool b => .bool b
  | .int k n => .int k n
  | .nilIface => .nili
  | .pointer none => .nilp
  | .slice none l c => bif Nat.beq l 0 && Nat.beq c 0 then .nils else .dead
  | .func (.func f) x y => bif Nat.beq x.size 0 && Nat.beq y.size 0 then .func f else .dead
  | .string s => .con (.string s)
  | .nilFunc => .con .nilFunc
  | _ => .dead
def ev (t : Nat → AV) : Operand → AV
  | .tmp i => t i
  | .const v => ofVal v
  | .global g => match lk globs g with
    | some (k, l) => .pt (.ints l.length k l) 0 0 0
    | none => .dead
  | .func f => .func f
/-- A byte of a constant string. -/
def strAt (b : ByteArray) (i : Nat) : Int :=
  match b[i]? with
  | some c => (c.toNat : Int)
  | none => 0
section
variable {R : Type}
@[inline] def chk (b : Bool) (x : Option R) : Option R := bif b then x else none
mutual
/-- The leaf in which a cell lies, and its place there. -/
def leaf (f : Nat) : AV → Option (Nat × AV)
  | .st ps => leafs f ps
  | c => some (f, c)
def leafs (f : Nat) : List AV → Option (Nat × AV)
  | [] => none
  | p :: ps => bif Nat.blt f p.sz then leaf f p else leafs (f - p.sz) ps
end
mutual
/-- The part of n cells that begins at a cell. -/
def piece (f n : Nat) : AV → Option AV
  | .st ps => bif Nat.beq f 0 && Nat.beq (AV.szs ps) n then some (.st ps) else pieces f n ps
  | c => bif c.comp && Nat.beq f 0 && Nat.beq c.sz n then some c else none
def pieces (f n : Nat) : List AV → Option AV
  | [] => none
  | p :: ps => bif Nat.blt f p.sz then piece f n p else pieces (f - p.sz) n ps
end
mutual
/-- The same with another part laid there. -/
def repl (f : Nat) (v : AV) : AV → Option AV
  | .st ps => bif Nat.beq f 0 && Nat.beq (AV.szs ps) v.sz then some v else (repls f v ps).map .st
  | c => bif Nat.beq f 0 && Nat.beq c.sz v.sz then some v else none
def repls (f : Nat) (v : AV) : List AV → Option (List AV)
  | [] => none
  | p :: ps => bif Nat.blt f p.sz then (repl f v p).map (· :: ps) else (repls (f - p.sz) v ps).map (p :: ·)
end
mutual
/-- The same with another leaf there. -/
def relf (f : Nat) (g : Nat → AV → Option AV) : AV → Option AV
  | .st ps => (relfs f g ps).map .st
  | c => g f c
def relfs (f : Nat) (g : Nat → AV → Option AV) : List AV → Option (List AV)
  | [] => none
  | p :: ps => bif Nat.blt f p.sz then (relf f g p).map (· :: ps) else (relfs (f - p.sz) g ps).map (p :: ·)
end
def isAgg : TD → Bool
  | .arr _ _ | .struct _ => true
  | _ => false
/-- A cell of a leaf. -/
def cellOf (f : Nat) : AV → Option AV
  | .ints n k l => bif Nat.blt f n then some (.int k (l.getD f 0)) else none
  | .prs _ _ _ => none
  | .st _ => none
  | .dead => none
  | c => bif Nat.beq f 0 then some c else none
/-- What is read at element i (of e cells each), cell f. -/
def getA (te : TE) (i e f : Nat) (c : AV) : Option AV :=
  match e with
  | 0 => bif isAgg te.td then piece f te.size c else (leaf f c).bind fun x => cellOf x.1 x.2
  | _ + 1 => match c with
    | .ints n k l => bif Nat.beq e 1 && Nat.beq f 0 then
        (bif isAgg te.td then (bif Nat.ble (i + te.size) n then some (.ints te.size k ((l.drop i).take te.size)) else none) else some (.int k (l.getD i 0)))
      else none
    | .prs _ k l =>
      bif Nat.beq e 2 then
        (bif isAgg te.td then (bif Nat.beq f 0 && Nat.beq te.size 2 then some (.st [.int k (l.getD i (0, 0)).1, .int k (l.getD i (0, 0)).2]) else none)
        else bif Nat.beq f 0 then some (.int k (l.getD i (0, 0)).1)
        else bif Nat.beq f 1 then some (.int k (l.getD i (0, 0)).2) else none)
      else none
    | _ => none
/-- A scalar laid at a cell of a leaf. -/
def setCellOf (v : AV) (f : Nat) : AV → Option AV
  | .ints n k l =>
    match v with
    | .int k' x => bif Nat.blt f n && decide (k = k') then some (.ints n k (l.set f x)) else none
    | _ => none
  | .prs _ _ _ => none
  | .st _ => none
  | _ => bif Nat.beq f 0 && Nat.beq v.sz 1 then some v else none
def setA (te : TE) (i e f : Nat) (c v : AV) : Option AV :=
  match e with
  | 0 => bif isAgg te.td then (bif Nat.beq v.sz te.size then repl f v c else none) else relf f (setCellOf v) c
  | _ + 1 => match c with
    | .ints n k l =>
      match v with
      | .int k' x => bif Nat.beq e 1 && Nat.beq f 0 && !isAgg te.td && decide (k = k') then some (.ints n k (l.set i x)) else none
      | _ => none
    | .prs n k l =>
      bif Nat.beq e 2 then
        match v with
        | .st [.int k1 x, .int k2 y] => bif isAgg te.td && Nat.beq f 0 && Nat.beq te.size 2 && decide (k = k1) && decide (k = k2) then some (.prs n k (l.set i (x, y))) else none
        | .int k' x => bif isAgg te.td || !decide (k = k') then none
          else bif Nat.beq f 0 then some (.prs n k (l.set i (x, (l.getD i (0, 0)).2)))
          else bif Nat.beq f 1 then some (.prs n k (l.set i ((l.getD i (0, 0)).1, x))) else none
        | _ => none
      else none
    | _ => none
/-- Are two values of a type the same? -/
def eqFs (tab : List (TypeId × TE)) (g : TypeId → AV → AV → Option Bool) : Nat → List (TypeId × Nat) → List AV → List AV → Option Bool
  | _, [], [], [] => some true
  | off, (t, o) :: fs, p :: ps, q :: qs =>
    match lk tab t with
    | some te => bif Nat.beq o off && Nat.beq p.sz te.size && Nat.beq q.sz te.size && (p.comp == isAgg te.td) && (q.comp == isAgg te.td) then
        match g t p q with
        | some x => match eqFs tab g (off + te.size) fs ps qs with
          | some y => some (x && y)
          | none => none
        | none => none
      else none
    | none => none
  | _, _, _, _ => none
def eqT (tab : List (TypeId × TE)) : Nat → TypeId → AV → AV → Option Bool
  | 0, _, _, _ => none
  | d + 1, t, x, y =>
    match lk tab t with
    | none => none
    | some te =>
      match te.td, x, y with
      | .bool, .bool a, .bool b => some (a == b)
      | .int _, .int k a, .int k' b => bif decide (k = k') then some (a == b) else none
      | .arr n e, .ints n1 k a, .ints n2 k' b =>
        match lk tab e with
        | some ⟨.int _, 1, _, _, _⟩ => bif Nat.beq n n1 && Nat.beq n n2 && decide (k = k') then some (decide (a = b)) else none
        | _ => none
      | .struct fs, .st ps, .st qs => bif te.cmp then eqFs tab (eqT tab d) 0 fs ps qs else none
      | .iface, .nili, .iface _ _ => some false
      | .iface, .iface _ _, .nili => some false
      | _, _, _ => none
def isConstO : Operand → Bool
  | .const _ => true
  | _ => false
def cmpOf (tab : List (TypeId × TE)) (t : TypeId) : Bool :=
  match lk tab t with
  | some te => te.cmp
  | none => false
def guardOk (tab : List (TypeId × TE)) (t : TypeId) (x y : Operand) : AV → AV → Bool
  | .nili, .nili => isConstO x || isConstO y
  | a, b => bif a.comp || b.comp then cmpOf tab t else true
def eqO (tab : List (TypeId × TE)) (t : TypeId) (x y : Operand) (a b : AV) : Option Bool :=
  bif guardOk tab t x y a b then
    match a, b with
    | .nili, .nili => (match lk tab t with | some ⟨.iface, _, _, _, _⟩ => some true | _ => none)
    | a, b => eqT tab 8 t a b
  else none
def bitsA (op : BinOp) (k : IntKind) (x y : Int) : Option Int :=
  match op with
  | .and => some (k.wrap (BitVec.ofInt k.bits x &&& BitVec.ofInt k.bits y).toNat)
  | .or => some (k.wrap (BitVec.ofInt k.bits x ||| BitVec.ofInt k.bits y).toNat)
  | .xor => some (k.wrap (BitVec.ofInt k.bits x ^^^ BitVec.ofInt k.bits y).toNat)
  | .andNot => some (k.wrap (BitVec.ofInt k.bits x &&& ~~~ BitVec.ofInt k.bits y).toNat)
  | _ => none
/-- A binary operation on whole numbers. -/
def binInt (op : BinOp) (k : IntKind) (x y : Int) (kk : AV → Option R) : Option R :=
  match op with
  | .add => kk (.int k (k.wrap (x + y)))
  | .sub => kk (.int k (k.wrap (x - y)))
  | .mul => kk (.int k (k.wrap (x * y)))
  | .quo => chk (!(y == 0)) (kk (.int k (k.wrap (x.tdiv y))))
  | .rem => chk (!(y == 0)) (kk (.int k (x.tmod y)))
  | .eql => kk (.bool (x == y))
  | .neq => kk (.bool (x != y))
  | .lss => kk (.bool (decide (x < y)))
  | .leq => kk (.bool (decide (x ≤ y)))
  | .gtr => kk (.bool (decide (x > y)))
  | .geq => kk (.bool (decide (x ≥ y)))
  | op => match bitsA op k x y with
    | some z => kk (.int k z)
    | none => none
def isShift : BinOp → Bool
  | .shl | .shr => true
  | _ => false
def shiftA (op : BinOp) (k : IntKind) (x y : Int) (kk : AV → Option R) : Option R :=
  match op with
  | .shl => chk (!decide (y < 0)) (kk (.int k (k.wrap (x * 2 ^ min y.toNat k.bits))))
  | .shr => chk (!decide (y < 0)) (kk (.int k (x.fdiv (2 ^ min y.toNat k.bits))))
  | _ => none
def binA (tab : List (TypeId × TE)) (op : BinOp) (t : TypeId) (ox oy : Operand) (x y : AV) (kk : AV → Option R) : Option R :=
  match x, y with
  | .int k a, .int k' b => bif isShift op then shiftA op k a b kk else bif decide (k = k') then binInt op k a b kk else none
  | x, y => match op with
    | .eql => match eqO tab t ox oy x y with
      | some b => kk (.bool b)
      | none => none
    | .neq => match eqO tab t ox oy x y with
      | some b => kk (.bool (!b))
      | none => none
    | _ => none
/-- Parts laid over the noughts of a struct. -/
def buildSt (t : Nat → AV) : List AV → List (Nat × Operand) → Option (List AV)
  | zs, [] => some zs
  | zs, (i, x) :: r =>
    match zs[i]? with
    | some z => bif (ev t x).live && Nat.beq (ev t x).sz z.sz then buildSt t (zs.set i (ev t x)) r else none
    | none => none
def buildInts (t : Nat → AV) (k : IntKind) : List Int → List (Nat × Operand) → Option (List Int)
  | l, [] => some l
  | l, (i, x) :: r =>
    match ev t x with
    | .int k' n => bif decide (k = k') && Nat.blt i l.length then buildInts t k (l.set i n) r else none
    | _ => none
def buildPrs (t : Nat → AV) (k : IntKind) : List (Int × Int) → List (Nat × Operand) → Option (List (Int × Int))
  | l, [] => some l
  | l, (i, x) :: r =>
    match ev t x with
    | .st [.int k1 a, .int k2 b] => bif decide (k = k1) && decide (k = k2) && Nat.blt i l.length then buildPrs t k (l.set i (a, b)) r else none
    | _ => none
/-- Is it a plain list's content? -/
def AV.plain : AV → Bool
  | .ints _ _ _ | .prs _ _ _ => true
  | _ => false
/-- A part of a list's content. -/
def subA (lo n : Nat) : AV → Option AV
  | .ints _ k l => some (.ints n k ((l.drop lo).take n))
  | .prs _ k l => some (.prs n k ((l.drop lo).take n))
  | _ => none
mutual
/-- A value without references: what is one's own is lent to be read. -/
def deepA (m : Nat → Option Blk) : AV → Option (AV × List Nat)
  | .wsl id => match m id with
    | some b => bif b.own && b.c.plain then some (.sl b.c, [id]) else none
    | none => none
  | .sl c => bif c.plain then some (.sl c, []) else none
  | .st ps => (deepAs m ps).map fun x => (.st x.1, x.2)
  | .iface t v => (deepA m v).map fun x => (.iface t x.1, x.2)
  | .wv id lo n e => match m id with
    | some b => bif b.own && b.c.plain && Nat.beq e b.c.esz then (match subA lo n b.c with
      | some c => some (.sl c, [id])
      | none => none) else none
    | none => none
  | .ptr _ _ _ _ | .pt _ _ _ _ | .osl _ _ | .dead | .tup _ | .rf _ _ | .rv _ _ _ _ _ | .mt _ _ => none
  | v => some (v, [])
def deepAs (m : Nat → Option Blk) : List AV → Option (List AV × List Nat)
  | [] => some ([], [])
  | p :: ps => match deepA m p with
    | some x => match deepAs m ps with
      | some y => some (x.1 :: y.1, x.2 ++ y.2)
      | none => none
    | none => none
end
/-- The arguments of a call. -/
def argsA (s : AS) (xs : List Operand) : Option (List AV × List Nat) := deepAs s.m (xs.map (ev s.t))
/-- An argument that may be handed over to be written: itself, what is lent, what is to be written, and what must hold. -/
def packA (m : Nat → Option Blk) : AV → Option (AV × List Nat × List Nat × Bool)
  | .ptr id 0 0 0 => match m id with
    | some b => bif b.own then (match deepA m b.c with
      | some (c, []) => some (.rf b.e c, [], [id], true)
      | _ => none) else none
    | none => none
  | .wv id lo n e => match m id with
    | some b => bif b.own && b.c.plain && Nat.beq e b.c.esz then some (.rv b.e lo n e b.c, [], [id], Nat.blt 0 n && Nat.ble (lo + n) b.c.cnt) else none
    | none => none
  | v => match deepA m v with
    | some x => some (x.1, x.2, [], true)
    | none => none
def packAs (m : Nat → Option Blk) : List AV → Option (List AV × List Nat × List Nat × Bool)
  | [] => some ([], [], [], true)
  | p :: ps => match packA m p with
    | some x => match packAs m ps with
      | some y => some (x.1 :: y.1, x.2.1 ++ y.2.1, x.2.2.1 ++ y.2.2.1, x.2.2.2 && y.2.2.2)
      | none => none
    | none => none
/-- What was written, when it comes back. -/
def mutUp (m : Nat → Option Blk) : List Nat → List AV → Option (List (Nat × Option Blk))
  | [], [] => some []
  | id :: ids, .rf e c :: cs => match m id with
    | some b => bif Nat.beq e b.e && Nat.beq c.esz b.c.esz then (match mutUp m ids cs with
      | some l => some ((id, some { b with c := c }) :: l)
      | none => none) else none
    | none => none
  | _, _ => none
mutual
/-- Some ids are no longer one's own, and never change again. -/
def frzV (m : Nat → Option Blk) (ids : List Nat) : AV → Option AV
  | .wsl id => bif ids.any (Nat.beq id) then (match m id with | some b => bif b.own then some (.sl b.c) else none | none => none) else some (.wsl id)
  | .ptr id i e f => bif ids.any (Nat.beq id) then none else some (.ptr id i e f)
  | .st ps => (frzVs m ids ps).map .st
  | .tup ps => (frzVs m ids ps).map .tup
  | .iface t v => (frzV m ids v).map (.iface t)
  | .pt c i e f => bif c.plain then some (.pt c i e f) else none
  | .sl c => bif c.plain then some (.sl c) else none
  | .wv id lo n e => bif ids.any (Nat.beq id) then none else some (.wv id lo n e)
  | v => some v
def frzVs (m : Nat → Option Blk) (ids : List Nat) : List AV → Option (List AV)
  | [] => some []
  | p :: ps => match frzV m ids p with
    | some q => match frzVs m ids ps with
      | some qs => some (q :: qs)
      | none => none
    | none => none
end
def frzS (s : AS) (ids : List Nat) : AS :=
  { t := fun j => (frzV s.m ids (s.t j)).getD .dead
    m := fun j => bif ids.any (Nat.beq j) then none else match s.m j with
      | some b => match frzV s.m ids b.c with
        | some c => some { b with c := c }
        | none => none
      | none => none
    c := s.c }
/-- Which ids must be frozen ahead of an operation. -/
def frzR (l : List Nat) : List Nat := bif l.any isMut then [] else l
def frzO (E : Env) (s : AS) : Op → List Nat
  | .call c => match c.callee with
    | .value f => match ev s.t f with
      | .func fid => match lk E.orc fid with
        | some en => bif en.frz then (bif en.wr then (match packAs s.m (c.args.toList.map (ev s.t)) with
          | some x => frzR x.2.1
          | none => []) else (match argsA s c.args.toList with
          | some x => frzR x.2
          | none => [])) else []
        | none => []
      | _ => []
    | _ => []
  | _ => []
/-- What a callee hands back: new lists of its own become one's own. -/
def resTup (s : AS) (d : Nat) : Nat → List AV → List AV × List (Nat × Option Blk) × List Nat
  | _, [] => ([], [], [])
  | j, .osl e c :: r => (.wsl (mkId (d + 1000 * j) (s.c (d + 1000 * j))) :: (resTup s d (j + 1) r).1, (mkId (d + 1000 * j) (s.c (d + 1000 * j)), some ⟨e, true, c⟩) :: (resTup s d (j + 1) r).2.1, (d + 1000 * j) :: (resTup s d (j + 1) r).2.2)
  | j, v :: r => (v :: (resTup s d (j + 1) r).1, (resTup s d (j + 1) r).2.1, (resTup s d (j + 1) r).2.2)
def resA (s : AS) (dst : Option Tmp) (rd : List Nat) (r : AV) : Option Eff :=
  match r, dst with
  | .osl e c, some d => some ⟨.wsl (mkId d (s.c d)), [(mkId d (s.c d), some ⟨e, true, c⟩)], [d], rd⟩
  | .osl _ _, none => some ⟨.dead, [], [], rd⟩
  | .tup ps, some d => bif Nat.ble ps.length 7 then some ⟨.tup (resTup s d 0 ps).1, (resTup s d 0 ps).2.1, (resTup s d 0 ps).2.2, rd⟩ else none
  | .tup _, none => some ⟨.dead, [], [], rd⟩
  | r, _ => some ⟨r, [], [], rd⟩
def newE (s : AS) (dst : Option Tmp) (e : TypeId) (c : AV) (mk : Nat → AV) (rd : List Nat) : Option Eff :=
  match dst with
  | some d => some ⟨mk (mkId d (s.c d)), [(mkId d (s.c d), some ⟨e, true, c⟩)], [d], rd⟩
  | none => none
def catA : AV → AV → Option AV
  | .ints n k l, .ints n' k' l' => bif decide (k = k') then some (.ints (n + n') k (l ++ l')) else none
  | .prs n k l, .prs n' k' l' => bif decide (k = k') then some (.prs (n + n') k (l ++ l')) else none
  | _, _ => none
/-- The content behind a list that is appended to, or from. -/
def listOf (s : AS) (z : Option TE) : AV → Option (AV × List Nat)
  | .nils => match z with
    | some ⟨.int _, _, _, .int k (.ofNat 0), _⟩ => some (.ints 0 k [], [])
    | _ => none
  | .wsl id => match s.m id with
    | some b => some (b.c, [id])
    | none => none
  | .sl c => some (c, [])
  | _ => none
def maxA : List AV → Option AV
  | [.int k x, .int k' y] => bif decide (k = k') then some (.int k (if y > x then y else x)) else none
  | [.int k x, .int k' y, .int k'' z] => bif decide (k = k') && decide (k = k'') then some (.int k (if z > (if y > x then y else x) then z else (if y > x then y else x))) else none
  | _ => none
def minA : List AV → Option AV
  | [.int k x, .int k' y] => bif decide (k = k') then some (.int k (if y < x then y else x)) else none
  | [.int k x, .int k' y, .int k'' z] => bif decide (k = k') && decide (k = k'') then some (.int k (if z < (if y < x then y else x) then z else (if y < x then y else x))) else none
  | _ => none
def takeA (a b : Nat) : AV → Option AV
  | .ints _ k l => some (.ints (b - a) k ((l.drop a).take (b - a)))
  | .prs _ k l => some (.prs (b - a) k ((l.drop a).take (b - a)))
  | _ => none
def boundA (t : Nat → AV) (d : Int) : Option Operand → Option Int
  | none => some d
  | some x => match ev t x with
    | .int _ n => some n
    | _ => none
/-- Is there room up to where a list may grow? -/
def mxA (t : Nat → AV) (h : Int) (cnt : Nat) (hi : Option Operand) : Option Operand → Bool
  | none => true
  | some y => match hi, ev t y with
    | some _, .int _ m => decide (h ≤ m) && decide (m ≤ cnt)
    | _, _ => false
def isSliceT (tab : List (TypeId × TE)) : List TypeId → Bool
  | t :: _ => match lk tab t with
    | some ⟨.slice _, _, _, _, _⟩ => true
    | _ => false
  | [] => false
def bltA (E : Env) (s : AS) (dst : Option Tmp) (b : Builtin) (ts : List TypeId) (xs : List Operand) (kk : Eff → Option R) : Option R :=
  match b, xs with
  | .len, [x] => bif isSliceT E.ty ts then (match ev s.t x with
    | .wsl id => match s.m id with
      | some b => kk ⟨.int .i64 b.c.cnt, [], [], [id]⟩
      | none => none
    | .sl c => kk (val (.int .i64 c.cnt))
    | .wv _ _ n _ => kk (val (.int .i64 n))
    | .nils => kk (val (.int .i64 0))
    | _ => none) else none
  | .max, xs => match maxA (xs.map (ev s.t)) with
    | some v => kk (val v)
    | none => none
  | .min, xs => match minA (xs.map (ev s.t)) with
    | some v => kk (val v)
    | none => none
  | .append, [x, y] =>
    bif isSliceT E.ty ts.tail then
    match ts with
    | t :: _ =>
      match lk E.ty t with
      | some ⟨.slice e, _, _, _, _⟩ =>
        match lk E.ty e, listOf s (lk E.ty e) (ev s.t y) with
        | some te, some (cy, ry) => bif cy.plain && Nat.beq te.size cy.esz && Nat.blt te.bytes 1000 && Nat.blt 0 te.bytes then
          match ev s.t x with
          | .nils => chk (Nat.ble (cy.cnt * te.bytes) 140737488355328) (match newE s dst e cy .wsl ry with | some f => kk f | none => none)
          | .wsl id => match s.m id with
            | some b => bif Nat.beq b.e e then match catA b.c cy with
              | some c => bif b.own && !(ry.any (Nat.beq id)) && !isMut id then chk (Nat.ble (c.cnt * te.bytes) 140737488355328)
                  (match newE s dst e c .wsl (id :: ry) with | some f => kk { f with up := f.up ++ [(id, none)] } | none => none) else none
              | none => none else none
            | none => none
          | _ => none else none
        | _, _ => none
      | _ => none
    | [] => none else none
  | _, _ => none
/-- One operation: what it yields, and what it does to memory. -/
def opA (E : Env) (s : AS) (dst : Option Tmp) (o : Op) (kk : Eff → Option R) : Option R :=
  match o with
  | .move x => kk (val (ev s.t x))
  | .assign x => kk (val (ev s.t x))
  | .pick c a b => match ev s.t c with
    | .bool v => bif v then kk (val (ev s.t a)) else kk (val (ev s.t b))
    | _ => none
  | .alloc t => match lk E.ty t with
    | some te => match newE s dst t te.zero (fun id => .ptr id 0 0 0) [] with
      | some f => kk f
      | none => none
    | none => none
  | .box t x => bif (ev s.t x).live then (match newE s dst t (ev s.t x) (fun id => .ptr id 0 0 0) [] with
      | some f => kk f
      | none => none) else none
  | .build t ps => match lk E.ty t with
    | some ⟨.struct _, _, _, .st zs, _⟩ => match buildSt s.t zs ps.toList with
      | some vs => kk (val (.st vs))
      | none => none
    | some ⟨.arr _ e, _, _, .ints n k l, _⟩ => match lk E.ty e, buildInts s.t k l ps.toList with
      | some te, some l => bif Nat.beq te.size 1 then kk (val (.ints n k l)) else none
      | _, _ => none
    | _ => none
  | .buildSlice t len ps => match lk E.ty t with
    | some ⟨.slice e, _, _, _, _⟩ => match lk E.ty e with
      | some ⟨.int k, _, _, .int k' (.ofNat 0), _⟩ => bif decide (k = k') && Nat.ble len 1000 then (match buildInts s.t k (List.replicate len 0) ps.toList with
        | some l => match newE s dst e (.ints len k l) .wsl [] with
          | some f => kk f
          | none => none
        | none => none) else none
      | some ⟨.struct _, _, _, .st [.int k (.ofNat 0), .int k' (.ofNat 0)], _⟩ => bif decide (k = k') && Nat.ble len 1000 then (match buildPrs s.t k (List.replicate len (0, 0)) ps.toList with
        | some l => match newE s dst e (.prs len k l) .wsl [] with
          | some f => kk f
          | none => none
        | none => none) else none
      | _ => none
    | _ => none
  | .load t a => match lk E.ty t with
    | some te => match ev s.t a with
      | .ptr id i e f => match s.m id with
        | some b => match getA te i e f b.c with
          | some v => kk ⟨v, [], [], [id]⟩
          | none => none
        | none => none
      | .pt c i e f => match getA te i e f c with
        | some v => kk (val v)
        | none => none
      | _ => none
    | none => none
  | .store t a x => match lk E.ty t with
    | some te => match ev s.t a with
      | .ptr id i e f => match s.m id with
        | some b => bif b.own && (ev s.t x).live then (match setA te i e f b.c (ev s.t x) with
          | some c => bif !Nat.beq e 0 || (Nat.beq c.cnt b.c.cnt && Nat.beq c.esz b.c.esz) then kk ⟨.dead, [(id, some { b with c := c })], [], [id]⟩ else none
          | none => none) else none
        | none => none
      | _ => none
    | none => none
  | .nilCheck x => match ev s.t x with
    | .ptr id i e f => kk (val (.ptr id i e f))
    | .pt c i e f => kk (val (.pt c i e f))
    | .func f => kk (val (.func f))
    | _ => none
  | .binOp op t x y _ => binA E.ty op t x y (ev s.t x) (ev s.t y) (fun v => kk (val v))
  | .unOp op _ x => match op, ev s.t x with
    | .not, .bool b => kk (val (.bool (!b)))
    | .neg, .int k n => kk (val (.int k (k.wrap (0 - n))))
    | .xor, .int k n => match bitsA .xor k (bif k.signed then -1 else k.max) n with
      | some z => kk (val (.int k z))
      | none => none
    | _, _ => none
  | .convert src dst x => match lk E.ty src, lk E.ty dst, ev s.t x with
    | some ⟨.int _, _, _, _, _⟩, some ⟨.int k, _, _, _, _⟩, .int _ n => kk (val (.int k (k.wrap n)))
    | _, _, _ => none
  | .makeInterface t x => match lk E.ty t with
    | some ⟨.iface, _, _, _, _⟩ => none
    | some _ => bif (ev s.t x).live then kk (val (.iface t (ev s.t x))) else none
    | none => none
  | .makeSlice t l c => match lk E.ty t, ev s.t l, ev s.t c with
    | some ⟨.slice e, _, _, _, _⟩, .int _ n, .int _ n' => match lk E.ty e with
      | some ⟨.int k, _, by', .int k' (.ofNat 0), _⟩ => chk (decide (k = k') && n == n' && decide (0 ≤ n) && decide ((by' : Int) * n ≤ 140737488355328) && decide (n < 9223372036854775808))
          (match newE s dst e (.ints n.toNat k (List.replicate n.toNat 0)) .wsl [] with
          | some f => kk f
          | none => none)
      | some ⟨.struct _, _, by', .st [.int k (.ofNat 0), .int k' (.ofNat 0)], _⟩ => chk (decide (k = k') && n == n' && decide (0 ≤ n) && decide ((by' : Int) * n ≤ 140737488355328) && decide (n < 9223372036854775808))
          (match newE s dst e (.prs n.toNat k (List.replicate n.toNat (0, 0))) .wsl [] with
          | some f => kk f
          | none => none)
      | _ => none
    | _, _, _ => none
  | .sliceToArrayPointer t x => match lk E.ty t, ev s.t x with
    | some ⟨.arr n _, _, _, _, _⟩, .wv id lo m e => chk (Nat.ble n m && Nat.blt 0 n) (kk (val (.ptr id lo e 0)))
    | _, _ => none
  | .slice t x lo hi mx => match lk E.ty t, ev s.t x with
    | some ⟨.arr n e, _, _, _, _⟩, .ptr id 0 0 0 => match s.m id with
      | some b => match lk E.ty e, mx, boundA s.t 0 lo, boundA s.t n hi with
        | some te, none, some l, some h => chk (b.c.plain && Nat.beq b.c.cnt n && Nat.beq te.size 1 && decide (0 ≤ l) && decide (l ≤ h) && decide (h ≤ n)) (kk ⟨.wv id l.toNat (h.toNat - l.toNat) 1, [], [], [id]⟩)
        | _, _, _, _ => none
      | none => none
    | some ⟨.slice e, _, _, _, _⟩, .sl c => match lk E.ty e, boundA s.t 0 lo, boundA s.t c.cnt hi with
      | some te, some l, some h => chk (mxA s.t h c.cnt hi mx && (Nat.beq te.size c.esz && decide (0 ≤ l) && decide (l ≤ h) && decide (h ≤ c.cnt))) (match takeA l.toNat h.toNat c with
        | some c' => kk (val (.sl c'))
        | none => none)
      | _, _, _ => none
    | some ⟨.slice e, _, _, _, _⟩, .wsl id => match s.m id with
      | some b => match lk E.ty e, boundA s.t 0 lo, boundA s.t b.c.cnt hi with
        | some te, some l, some h => chk (mxA s.t h b.c.cnt hi mx && (b.c.plain && Nat.beq te.size b.c.esz && decide (0 ≤ l) && decide (l ≤ h) && decide (h ≤ b.c.cnt))) (kk ⟨.wv id l.toNat (h.toNat - l.toNat) te.size, [], [], [id]⟩)
        | _, _, _ => none
      | none => none
    | some ⟨.slice e, _, _, _, _⟩, .wv id lo0 n e0 => match lk E.ty e, boundA s.t 0 lo, boundA s.t n hi with
      | some te, some l, some h => chk (mxA s.t h n hi mx && (Nat.beq te.size e0 && decide (0 ≤ l) && decide (l ≤ h) && decide (h ≤ n))) (kk (val (.wv id (lo0 + l.toNat) (h.toNat - l.toNat) e0)))
      | _, _, _ => none
    | _, _ => none
  | .fieldAddr t x f => match lk E.ty t with
    | some ⟨.struct fs, _, _, _, _⟩ => match fs[f]? with
      | some (ft, off) => match lk E.ty ft with
        | some fe => bif Nat.beq fe.size 0 then none else match ev s.t x with
          | .ptr id i e g => kk (val (.ptr id i e (g + off)))
          | .pt c i e g => kk (val (.pt c i e (g + off)))
          | _ => none
        | none => none
      | none => none
    | _ => none
  | .field t x f => match lk E.ty t with
    | some ⟨.struct fs, _, _, _, _⟩ => match fs[f]?, ev s.t x with
      | some (ft, off), .st ps => match lk E.ty ft, ps[f]? with
        | some fe, some p => bif Nat.beq (AV.szs (ps.take f)) off && Nat.beq p.sz fe.size && (p.comp == isAgg fe.td) then kk (val p) else none
        | _, _ => none
      | _, _ => none
    | _ => none
  | .indexAddr t x i => match lk E.ty t, ev s.t i with
    | some ⟨.arr n e, _, _, _, _⟩, .int _ j => match lk E.ty e, ev s.t x with
      | some te, .ptr id _ 0 f => chk (decide (0 ≤ j) && decide (j < n)) (match s.m id with
        | some b => bif Nat.beq b.c.cnt n && Nat.beq f 0 && !Nat.beq te.size 0 then kk ⟨.ptr id j.toNat te.size 0, [], [], [id]⟩ else kk ⟨.ptr id 0 0 (f + j.toNat * te.size), [], [], [id]⟩
        | none => none)
      | some te, .pt c _ 0 f => chk (decide (0 ≤ j) && decide (j < n)) (bif Nat.beq c.cnt n && Nat.beq f 0 && !Nat.beq te.size 0 then kk (val (.pt c j.toNat te.size 0)) else kk (val (.pt c 0 0 (f + j.toNat * te.size))))
      | _, _ => none
    | some ⟨.slice e, _, _, _, _⟩, .int _ j => match lk E.ty e, ev s.t x with
      | some te, .wsl id => match s.m id with
        | some b => chk (decide (0 ≤ j) && decide (j < b.c.cnt) && !Nat.beq te.size 0) (kk ⟨.ptr id j.toNat te.size 0, [], [], [id]⟩)
        | none => none
      | some te, .sl c => chk (decide (0 ≤ j) && decide (j < c.cnt) && !Nat.beq te.size 0) (kk (val (.pt c j.toNat te.size 0)))
      | some te, .wv id lo n e0 => chk (decide (0 ≤ j) && decide (j < n) && (!Nat.beq te.size 0 && Nat.beq te.size e0)) (kk (val (.ptr id (lo + j.toNat) te.size 0)))
      | _, _ => none
    | _, _ => none
  | .index t x i => match lk E.ty t, ev s.t x, ev s.t i with
    | some ⟨.arr n e, _, _, _, _⟩, .ints n' k l, .int _ j => match lk E.ty e with
      | some te => chk (decide (0 ≤ j) && decide (j < n)) (bif Nat.beq n n' && Nat.beq te.size 1 && !isAgg te.td then kk (val (.int k (l.getD j.toNat 0))) else none)
      | none => none
    | some ⟨.str, _, _, _, _⟩, .con (.string b), .int _ j => chk (decide (0 ≤ j) && decide (j < b.size)) (kk (val (.int .u8 (strAt b j.toNat))))
    | _, _, _ => none
  | .extract x i => match ev s.t x with
    | .tup ps => match ps[i]? with
      | some p => kk (val p)
      | none => none
    | _ => none
  | .call c => match c.callee with
    | .builtin b => bltA E s dst b c.argTypes.toList c.args.toList kk
    | .value f => match ev s.t f with
      | .func fid => match lk E.orc fid with
        | some en => bif en.wr then
            (match packAs s.m (c.args.toList.map (ev s.t)) with
            | some (as, rd, ms, g) => bif (en.frz && !rd.isEmpty) || !nodupB ms || ms.any (fun i => rd.any (Nat.beq i)) then none else
              chk g (en.go R E.n as (fun r => match r with
              | .mt r cs => match mutUp s.m ms cs, resA s dst (rd ++ ms) r with
                | some up, some f => kk { f with up := f.up ++ up }
                | _, _ => none
              | _ => none))
            | none => none)
          else (match argsA s c.args.toList with
            | some (as, rd) => bif en.frz && !rd.isEmpty then none else en.go R E.n as (fun r => match resA s dst rd r with
              | some f => kk f
              | none => none)
            | none => none)
        | none => none
      | _ => none
    | _ => none
  | _ => none
def okDst (E : Env) : Option Tmp → Bool
  | some d => Nat.blt d E.nt
  | none => true
def frzIf (s : AS) : List Nat → AS
  | [] => s
  | id :: r => frzS s (id :: r)
/-- What an operation yields that was not wanted. -/
def skipV : AV := .tup []
/-- An operation of a region, with its guard. -/
def stepA (E : Env) (ops : Array Oper) (s : AS) (o : Oper) (kk : List Nat → List Nat → AS → Option R) : Option R :=
  bif okDst E o.dst then
    match o.guard with
    | none => opA E s o.dst o.op (fun f => kk f.rd (f.up.map (·.1)) (s.put o.dst f))
    | some (g, want) =>
      match (ops[g]?).bind (·.dst) with
      | none => none
      | some d => match s.t d with
        | .bool true =>
          (bif want then opA E s o.dst o.op (fun f => kk f.rd (f.up.map (·.1)) (s.put o.dst f)) else kk [] [] (s.put o.dst (val skipV)))
        | .bool false =>
          (bif want then kk [] [] (s.put o.dst (val skipV)) else opA E s o.dst o.op (fun f => kk f.rd (f.up.map (·.1)) (s.put o.dst f)))
        | .tup [] => kk [] [] (s.put o.dst (val skipV))
        | _ => none
  else none
/-- A guard that is not known is parted on. -/
def partA (ops : Array Oper) (s : AS) (o : Oper) (kk : AS → Option R) : Option R :=
  match o.guard with
  | none => kk s
  | some (g, _) =>
    match (ops[g]?).bind (·.dst) with
    | none => none
    | some d => match s.t d with
      | .bool b => bif b then kk { s with t := upd s.t d (.bool true) } else kk { s with t := upd s.t d (.bool false) }
      | .tup [] => kk s
      | _ => none
def opsA (E : Env) (ops : Array Oper) : List Oper → AS → (AS → Option R) → Option R
  | [], s, kk => kk s
  | o :: r, s, kk => partA ops s o (fun s => stepA E ops (frzIf s (frzO E s o.op)) o (fun _ _ s => opsA E ops r s kk))
/-- The same, with what each operation touched. -/
def opsD (E : Env) (ops : Array Oper) : List Oper → AS → List (List Nat × List Nat) → (AS → List (List Nat × List Nat) → Option R) → Option R
  | [], s, fs, kk => kk s fs.reverse
  | o :: r, s, fs, kk => partA ops s o (fun s => stepA E ops s o (fun rd up s => opsD E ops r s ((rd, up) :: fs) kk))
def clash (a b : List Nat × List Nat) : Bool :=
  a.2.any (fun x => b.1.any (Nat.beq x) || b.2.any (Nat.beq x)) || b.2.any (fun x => a.1.any (Nat.beq x))
def waitsB (o : Oper) (i : Nat) : Bool := o.after.any fun e => Region.binds .any e && Nat.beq e.on i
/-- The same, by way of others. -/
def waitsT (ops : Array Oper) : Nat → Oper → Nat → Bool
  | 0, o, i => waitsB o i
  | k + 1, o, i => waitsB o i || o.after.any fun e => Region.binds .any e && (match ops[e.on]? with | some p => waitsT ops k p i | none => false)
/-- May any order be taken that the edges leave open? i: the first one's number. -/
def freeOf (ops : Array Oper) (i : Nat) (o : Oper) (f : List Nat × List Nat) : List Oper → List (List Nat × List Nat) → Bool
  | [], _ => true
  | p :: r, g :: gs => (waitsB p i || ((o.apart ops p && !clash f g) || waitsT ops 12 p i)) && freeOf ops i o f r gs
  | _ :: _, [] => false
def drawOk (ops : Array Oper) : Nat → List Oper → List (List Nat × List Nat) → Bool
  | _, [], _ => true
  | i, o :: r, f :: fs => (o.after.all fun e => !Region.binds .any e || Nat.blt e.on i) && freeOf ops i o f r fs && drawOk ops (i + 1) r fs
  | _, _ :: _, [] => false
inductive Ex where
  | normal
  | exit (id : Nat)
  | ret
mutual
def renA (rn : Nat → Option Nat) : AV → Option AV
  | .ptr id i e f => (rn id).map fun j => .ptr j i e f
  | .wsl id => (rn id).map .wsl
  | .st ps => (renAs rn ps).map .st
  | .tup ps => (renAs rn ps).map .tup
  | .pt c i e f => (renA rn c).map fun c => .pt c i e f
  | .sl c => (renA rn c).map .sl
  | .osl _ _ => none
  | .iface t v => (renA rn v).map (.iface t)
  | .wv id lo n e => (rn id).map fun j => .wv j lo n e
  | .rf _ _ | .rv _ _ _ _ _ | .mt _ _ => none
  | v => some v
def renAs (rn : Nat → Option Nat) : List AV → Option (List AV)
  | [] => some []
  | p :: ps => match renA rn p with
    | some q => match renAs rn ps with
      | some qs => some (q :: qs)
      | none => none
    | none => none
end
def mkT (l : List (Nat × AV)) : Nat → AV := fun j => (lk l j).getD .dead
def mkM (l : List (Nat × Option Blk)) : Nat → Option Blk := fun j => (lk l j).getD none
def mkC (l : List Nat) : Nat → Nat := fun d => bif l.any (Nat.beq d) then 1 else 0
/-- An entry of a hint, the old id, what lies there. -/
abbrev Ref := (Nat × Nat × TypeId × AV) × Option Nat × AV
/-- Nothing at all, as a list's content. -/
def emptyA : AV → Bool
  | .ints 0 _ [] => true
  | .prs 0 _ [] => true
  | _ => false
def blkA (s : AS) (e : TypeId) (id : Nat) : Option AV :=
  match s.m id with
  | some b => bif b.own && Nat.beq b.e e then some b.c else none
  | none => none
def refA (s : AS) (r : Nat × Nat × TypeId × AV) : Option (Option Nat × AV) :=
  match r.2.2.2 with
  | .dead => match s.t r.1 with
    | .ptr id 0 0 0 => match blkA s r.2.2.1 id with
      | some c => some (some id, c)
      | none => none
    | _ => none
  | .wv j _ _ _ => match s.t j with
    | .wv id _ _ _ => match blkA s r.2.2.1 id with
      | some c => some (some id, c)
      | none => none
    | _ => none
  | c => match s.t r.1 with
    | .wsl id => match blkA s r.2.2.1 id with
      | some c => some (some id, c)
      | none => none
    | .nils => bif emptyA c then some (none, c) else none
    | _ => none
/-- What the slots that are kept refer to. -/
def refsA (s : AS) : List (Nat × Nat × TypeId × AV) → Option (List Ref)
  | [] => some []
  | r :: rs => match refA s r with
    | none => none
    | some x => match refsA s rs with
      | none => none
      | some l => some ((r, x) :: l)
def rnOf : List Ref → Nat → Option Nat
  | [], _ => none
  | (r, some old, _) :: l, id => bif Nat.beq old id then some r.2.1 else rnOf l id
  | (_, none, _) :: l, id => rnOf l id
def renC (rn : Nat → Option Nat) : List Ref → Option (List AV)
  | [] => some []
  | x :: l => match renA rn x.2.2 with
    | none => none
    | some c => match renC rn l with
      | none => none
      | some cs => some (c :: cs)
/-- The names of what was handed over to be written stay. -/
def mutRef (l : List Ref) : Bool := l.all fun x => match x.2.1 with
  | some o => bif isMut o || isMut x.1.2.1 then Nat.beq o x.1.2.1 else true
  | none => !isMut x.1.2.1
/-- At a loop's head: what is kept, ids named anew. -/
def valsA (h : Hint) (s : AS) : Option (List AV) :=
  match refsA s h.refs with
  | none => none
  | some l =>
    bif nodupB (l.filterMap (·.2.1)) && nodupB (h.refs.map (·.2.1)) && (h.refs.all fun r => Nat.blt r.2.1 9000) && mutRef l then
      match renC (rnOf l) l with
      | none => none
      | some cs => some (cs ++ h.keep.map (fun j => (renA (rnOf l) (s.t j)).getD .dead))
    else none
def refV (r : Nat × Nat × TypeId × AV) : AV :=
  match r.2.2.2 with
  | .dead => .ptr r.2.1 0 0 0
  | .wv _ _ _ _ => .dead
  | _ => .wsl r.2.1
def zipR : List (Nat × Nat × TypeId × AV) → List AV → List (Nat × Option Blk)
  | r :: rs, v :: vs => (r.2.1, some ⟨r.2.2.1, true, v⟩) :: zipR rs vs
  | _, _ => []
def zipK : List Nat → List AV → List (Nat × AV)
  | j :: js, v :: vs => (j, v) :: zipK js vs
  | _, _ => []
/-- The state that is made of what is kept. -/
def stateOf (h : Hint) (vs : List AV) : AS :=
  { t := mkT (h.refs.map (fun r => (r.1, refV r)) ++ zipK h.keep (vs.drop h.refs.length))
    m := mkM (zipR h.refs vs)
    c := mkC (h.refs.map (·.2.1)) }
def weakA (h : Hint) (s : AS) (kk : AS → Option R) : Option R :=
  match valsA h s with
  | some vs => kk (stateOf h vs)
  | none => none
def outK (le : LEnt) (kk : Ex → AS → Option R) : Nat → List AV → Option R
  | 0, vs => kk .normal (stateOf le.out vs)
  | 1, vs => kk .ret (stateOf le.ret vs)
  | j + 2, vs => kk (.exit j) (stateOf le.out vs)
/-- A loop by its law. -/
def lorcA (le : LEnt) (n : Nat) (s : AS) (kk : Ex → AS → Option R) : Option R :=
  match valsA le.inn s with
  | some vs => le.go R n vs (outK le kk)
  | none => none
/-- What becomes of a round of a loop. -/
def bodyK (le : LEnt) (id : Nat) (k1 : List AV → Option R) (k2 : Nat → List AV → Option R) (e : Ex) (s : AS) : Option R :=
  match e with
  | .normal => match valsA le.inn s with
    | some vs => k1 vs
    | none => none
  | .exit j => match valsA le.out s with
    | some vs => bif Nat.beq j id then k2 0 vs else k2 (j + 2) vs
    | none => none
  | .ret => match valsA le.ret s with
    | some vs => k2 1 vs
    | none => none
/-- Rounds of a loop. -/
def loopN (step : List AV → (List AV → Option R) → (Nat → List AV → Option R) → Option R) : Nat → List AV → (Nat → List AV → Option R) → Option R
  | 0, _, _ => none
  | m + 1, vs, kk => step vs (fun vs' => loopN step m vs' kk) kk
def iterA (wk : AS → (AS → Option R) → Option R) (body : AS → (Ex → AS → Option R) → Option R) : Nat → AS → (Ex → AS → Option R) → Option R
  | 0, _, _ => none
  | m + 1, s, kk => wk s (fun s => body s (fun e s' => match e with
    | .normal => iterA wk body m s' kk
    | .exit id => kk (.exit id) s'
    | .ret => kk .ret s'))
def runA (E : Env) : Code → Nat → AS → (Ex → AS → Option R) → Option R
  | .skip, _, s, kk => kk .normal s
  | .region _ ops draw, _, s, kk =>
    bif draw then opsD E ops ops.toList s [] (fun s fs => bif drawOk ops 0 ops.toList fs then kk .normal s else none)
    else opsA E ops ops.toList s (fun s => kk .normal s)
  | .seq x y, b, s, kk => runA E x b s (fun e s => match e with
    | .normal => runA E y b s kk
    | .exit id => kk (.exit id) s
    | .ret => kk .ret s)
  | .cond c x y, b, s, kk => match ev s.t c with
    | .bool v => bif v then runA E x b s kk else runA E y b s kk
    | _ => none
  | .block id x, _, s, kk => match lk E.lorc id with
    | some le => lorcA le E.n s kk
    | none => runA E x id s (fun e s => match e with
      | .normal => kk .normal s
      | .exit j => bif Nat.beq j id then kk .normal s else kk (.exit j) s
      | .ret => kk .ret s)
  | .loop x, b, s, kk => match lk E.hint b with
    | some h => iterA (weakA h) (fun s kk => runA E x b s kk) (h.fuel.getD E.n) s kk
    | none => iterA (fun s kk => kk s) (fun s kk => runA E x b s kk) 70 s kk
  | .exit id, _, s, kk => kk (.exit id) s
  | .ret, _, s, kk => kk .ret s
  | _, _, _, _ => none
/-- A result of a call, at its end, and which id it is. -/
def resultA (E : Env) (s : AS) : ResultVar → Option (AV × List Nat)
  | .tmp d => match s.t d with
    | .wsl id => match s.m id with
      | some b => bif b.own && b.c.plain then some (.osl b.e b.c, [id]) else none
      | none => none
    | v => match deepA s.m v with
      | some x => some (x.1, x.2)
      | none => none
  | .cell d t => match lk E.ty t, s.t d with
    | some te, .ptr id i e f => match s.m id with
      | some b => match getA te i e f b.c with
        | some v => match deepA s.m v with
          | some x => some (x.1, x.2)
          | none => none
        | none => none
      | none => none
    | _, _ => none
def resultsA (E : Env) (s : AS) : List ResultVar → Option (List AV × List Nat)
  | [] => some ([], [])
  | r :: rs => match resultA E s r with
    | some v => match resultsA E s rs with
      | some vs => some (v.1 :: vs.1, v.2 ++ vs.2)
      | none => none
    | none => none
def endA (E : Env) (rs : List ResultVar) (kk : AV → Option R) (e : Ex) (s : AS) : Option R :=
  match e with
  | .exit _ => none
  | _ => match resultsA E s rs with
    | some x => bif nodupB x.2 then (match x.1 with
      | [v] => kk v
      | vs => kk (.tup vs)) else none
    | none => none
/-- What was handed over to be written, as it is at the end. -/
def mutEnd (m : Nat → Option Blk) : List Nat → Option (List AV)
  | [] => some []
  | id :: r => match m id with
    | some b => bif b.own then (match deepA m b.c with
      | some (c, []) => match mutEnd m r with
        | some l => some (.rf b.e c :: l)
        | none => none
      | _ => none) else none
    | none => none
def endM (E : Env) (rs : List ResultVar) (ms : List Nat) (kk : AV → Option R) (e : Ex) (s : AS) : Option R :=
  match e with
  | .exit _ => none
  | _ => match resultsA E s rs, mutEnd s.m ms with
    | some x, some l => bif nodupB (x.2 ++ ms) then (match x.1 with
      | [v] => kk (.mt v l)
      | vs => kk (.mt (.tup vs) l)) else none
    | _, _ => none
/-- Arguments laid down: slots, memory, names. -/
def unpA : Nat → List AV → List AV × List (Nat × Option Blk) × List Nat
  | _, [] => ([], [], [])
  | i, .rf e c :: r => (.ptr (8000 + i) 0 0 0 :: (unpA (i + 1) r).1, (8000 + i, some ⟨e, true, c⟩) :: (unpA (i + 1) r).2.1, (8000 + i) :: (unpA (i + 1) r).2.2)
  | i, .rv t lo n e c :: r => (.wv (8000 + i) lo n e :: (unpA (i + 1) r).1, (8000 + i, some ⟨t, true, c⟩) :: (unpA (i + 1) r).2.1, (8000 + i) :: (unpA (i + 1) r).2.2)
  | i, v :: r => (v :: (unpA i r).1, (unpA i r).2.1, (unpA i r).2.2)
def slots : Nat → List AV → List (Nat × AV)
  | _, [] => []
  | i, x :: r => (i, x) :: slots (i + 1) r
/-- A whole call with something handed over to be written. -/
def callM (E : Env) (c : Code) (rs : List ResultVar) (args : List AV) (kk : AV → Option R) : Option R :=
  runA E c 999999 ⟨mkT (slots 0 (unpA 0 args).1), mkM (unpA 0 args).2.1, mkC (unpA 0 args).2.2⟩ (fun e s => endM E rs (unpA 0 args).2.2 kk e s)
/-- A whole call. -/
def callA (E : Env) (c : Code) (rs : List ResultVar) (args : List (Nat × AV)) (kk : AV → Option R) : Option R :=
  runA E c 999999 ⟨mkT args, mkM [], mkC []⟩ (fun e s => endA E rs kk e s)
end
end Go.Proofs.YtbakldcbaikgpaaGreatDoor
