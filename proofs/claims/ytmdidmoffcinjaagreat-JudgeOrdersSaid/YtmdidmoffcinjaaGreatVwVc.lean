import Derived.Test.YtmdidmoffcinjaaGreatVwOrd
import GoSem.Core.View
namespace Go.Vw
open Go Go.RowKit
inductive Blk where
 | row (e : TypeId) (c : List Value) (sz : Nat)
 | old (c : List Value)
 | imap (es : List (Int × Value))
 | obj (o : Obj)
 | pmap (es : List (Int × Value))
abbrev Hp := Nat → Option Blk
abbrev Env := Nat → Value
def Hp.set (h : Hp) (b : Nat) (k : Blk) : Hp := fun b' => if b' = b then some k else h b'
def Hp.del (h : Hp) (b : Nat) : Hp := fun b' => if b' = b then none else h b'
def Hp.row? (h : Hp) (b : Nat) : Option (List Value) :=
 match h b with
 | some (.row _ c _) => some c
 | some (.old c) => some c
 | _ => none
def Env.put (ρ : Env) (d : Nat) (v : Value) : Env := fun i => match Nat.beq i d with | true => v | false => ρ i
def evalO (ρ : Env) : Operand → Value
 | .tmp t => ρ t
 | .const v => v
 | .global g => .pointer (some ⟨g, 0, none⟩)
 | .func f => .func (.func f) #[] #[]
def bcase (b : Bool) (A B : Prop) : Prop := match b with | true => A | false => B
def anyOf (d : Option TypeDesc) (p : Value → Prop) (K : Value → Prop) : Prop :=
 match d with
 | some (.int k) => ∃ n : Int, p (.int k n) ∧ K (.int k n)
 | some .bool => ∃ b : Bool, p (.bool b) ∧ K (.bool b)
 | some .string => ∃ s : ByteArray, p (.string s) ∧ K (.string s)
 | some (.pointer _) => ∃ a : Option Addr, p (.pointer a) ∧ K (.pointer a)
 | some (.slice _) => ∃ (a : Option Addr) (n c : Nat), p (.slice a n c) ∧ K (.slice a n c)
 | some (.map _ _) => ∃ r : Option Nat, p (.map r) ∧ K (.map r)
 | some (.chan _ _) => ∃ r : Option Nat, p (.chan r) ∧ K (.chan r)
 | some (.struct _) => ∃ cs : List Value, p (.agg cs.toArray) ∧ K (.agg cs.toArray)
 | some (.array _ _) => ∃ cs : List Value, p (.agg cs.toArray) ∧ K (.agg cs.toArray)
 | _ => ∃ v : Value, p v ∧ K v
def shaped (P : Program) (ts : List TypeId) (r : Value) (K : Value → Prop) : Prop :=
 match ts with
 | [] => r = .tuple #[] ∧ K (.tuple #[])
 | [t] => anyOf (P.underlying t) (fun v => r = v) K
 | [t, u] => anyOf (P.underlying t) (fun _ => True) fun v => anyOf (P.underlying u) (fun x => r = .tuple #[v, x]) fun x => K (.tuple #[v, x])
 | [t, u, s] => anyOf (P.underlying t) (fun _ => True) fun v => anyOf (P.underlying u) (fun _ => True) fun x => anyOf (P.underlying s) (fun y => r = .tuple #[v, x, y]) fun y => K (.tuple #[v, x, y])
 | _ => False
def nilCk (a : Option Addr) (K : Nat → Nat → Prop) : Prop :=
 match a with
 | some ⟨b, o, none⟩ => K b o
 | _ => False
def isAggD (d : Option TypeDesc) : Bool :=
 match d with
 | some (.struct _) => true
 | some (.array _ _) => true
 | _ => false
def Ld (h : Hp) (b o : Nat) (v : Value) : Prop := ∃ c, h.row? b = some c ∧ c[o]? = some v
def Lds (h : Hp) (b o m : Nat) (cs : List Value) : Prop := ∃ c, h.row? b = some c ∧ o + m ≤ c.length ∧ cs = (c.drop o).take m
def ldv (agg : Bool) (h : Hp) (b o m : Nat) (v : Value) : Prop :=
 match agg with
 | true => match v with | .agg cs => Lds h b o m cs.toList | _ => False
 | false => Ld h b o v
def stabK (st : Option Hp) (h : Hp) (b : Nat) (K : Prop) : Prop := match st with | none => K | some h0 => h0 b = h b ∧ K
def slCells (h : Hp) (a : Option Addr) (n size : Nat) (xs : List Value) : Prop :=
 match a with
 | none => xs = []
 | some ⟨b, o, none⟩ => Lds h b o (n * size) xs
 | _ => False
def allOne (cs : List Value) : Bool := cs.all Value.oneCell'
def cellEq : Value → Value → Bool
 | .int _ a, .int _ b => a == b
 | .string a, .string b => a.toList == b.toList
 | .bool a, .bool b => a == b
 | _, _ => false
def cellsEq : List Value → List Value → Bool
 | [], [] => true
 | x :: xs, y :: ys => cellEq x y && cellsEq xs ys
 | _, _ => false
inductive Leaf where
 | int (k : IntKind) | str | bool
def Leaf.is : Leaf → Value → Bool
 | .int k, .int k' _ => k == k'
 | .str, .string _ => true
 | .bool, .bool _ => true
 | _, _ => false
def leavesOk : List Leaf → List Value → Bool
 | [], [] => true
 | l :: ls, v :: vs => l.is v && leavesOk ls vs
 | _, _ => false
def fieldLeaves (P : Program) (lv : TypeId → Option (List Leaf)) (off : Nat) : List Field → Option (List Leaf)
 | [] => some []
 | f :: fs =>
  match lv f.type, P.info? f.type with
  | some r, some i =>
   match f.name != "_" && Nat.beq f.offset off && Nat.beq i.size r.length with
   | true => match fieldLeaves P lv (off + r.length) fs with | some l => some (r ++ l) | none => none
   | false => none
  | _, _ => none
def leaves (P : Program) : Nat → TypeId → Option (List Leaf)
 | 0, _ => none
 | d + 1, t =>
  match P.underlying t with
  | some (.int k) => some [.int k]
  | some .string => some [.str]
  | some .bool => some [.bool]
  | some (.array n e) =>
   match leaves P d e, P.info? e with
   | some l, some i => match Nat.beq i.size l.length with | true => some (List.replicate n l).flatten | false => none
   | _, _ => none
  | some (.struct fs) => match P.stoodInHeld t with | true => none | false => fieldLeaves P (leaves P d) 0 fs.toList
  | _ => none
def pairV (c : Int) : Value := .agg #[.int .i64 (c / 18446744073709551616), .int .i64 (c % 18446744073709551616 - 9223372036854775808)]
def pairC (a b : Int) : Int := a * 18446744073709551616 + (b + 9223372036854775808)
def intF (P : Program) (f : Field) : Bool := f.name != "_" && match P.underlying f.type, P.info? f.type with | some (.int _), some i => Nat.beq i.size 1 | _, _ => false
def twoF (P : Program) : List Field → Bool
 | [f, g] => Nat.beq f.offset 0 && Nat.beq g.offset 1 && intF P f && intF P g
 | _ => false
def twoL : Option (List Leaf) → Bool
 | some [.int .i64, .int .i64] => true
 | _ => false
def pairT (P : Program) (t : TypeId) : Bool := match P.underlying t with
 | some (.struct fs) => twoL (leaves P 20 t) && twoF P fs.toList
 | _ => false
def pairM (P : Program) (t : TypeId) : Bool := match P.underlying t with
 | some (.map kt _) => pairT P kt
 | _ => false
def mn (x y : Int) : Int := if y < x then y else x
def mx (x y : Int) : Int := if y > x then y else x
def slA (a : Option Addr) (c l sz : Nat) : Option Addr := if c = l then a else a.map (·.add (l * sz))
def intOfV (v : Value) (K : Int → Prop) : Prop := match v with | .int _ n => K n | _ => False
def optInt (v : Option Value) (d : Int) (K : Int → Prop) : Prop := match v with | none => K d | some (.int _ n) => K n | _ => False
def pBin (P : Program) (op : BinOp) (t : TypeId) (x y : Value) (K : Value → Prop) : Prop :=
 match x, y with
 | .int k a, .int k' b =>
  match op with
  | .shl => 0 ≤ b ∧ K (.int k (k.wrap (a * 2 ^ (min b.toNat k.bits))))
  | .shr => 0 ≤ b ∧ K (.int k (a.fdiv (2 ^ (min b.toNat k.bits))))
  | op =>
   match (k == k' : Bool) with
   | false => False
   | true =>
    match op with
    | .add => K (.int k (k.wrap (a + b)))
    | .sub => K (.int k (k.wrap (a - b)))
    | .mul => K (.int k (k.wrap (a * b)))
    | .quo => b ≠ 0 ∧ K (.int k (k.wrap (a.tdiv b)))
    | .rem => b ≠ 0 ∧ K (.int k (a.tmod b))
    | .and => K (.int k (k.wrap (BitVec.ofInt k.bits a &&& BitVec.ofInt k.bits b).toNat))
    | .or => K (.int k (k.wrap (BitVec.ofInt k.bits a ||| BitVec.ofInt k.bits b).toNat))
    | .xor => K (.int k (k.wrap (BitVec.ofInt k.bits a ^^^ BitVec.ofInt k.bits b).toNat))
    | .andNot => K (.int k (k.wrap (BitVec.ofInt k.bits a &&& ~~~(BitVec.ofInt k.bits b)).toNat))
    | .eql => K (.bool (a == b))
    | .neq => K (.bool (a != b))
    | .lss => K (.bool (a < b))
    | .leq => K (.bool (a ≤ b))
    | .gtr => K (.bool (a > b))
    | .geq => K (.bool (a ≥ b))
    | _ => False
 | .string a, .string b =>
  match op with
  | .add => a.size + b.size ≤ 9223372036854775807 ∧ K (.string (a ++ b))
  | .eql => K (.bool (a.toList == b.toList))
  | .neq => K (.bool (!(a.toList == b.toList)))
  | _ => False
 | .bool a, .bool b =>
  match P.underlying t with
  | some .bool =>
   match op with
   | .eql => K (.bool (a == b))
   | .neq => K (.bool (!(a == b)))
   | _ => False
  | _ => False
 | .pointer a, .pointer none =>
  match P.underlying t with
  | some (.pointer _) =>
   match op with
   | .eql => K (.bool a.isNone)
   | .neq => K (.bool (!a.isNone))
   | _ => False
  | _ => False
 | .slice a _ _, .slice none _ _ =>
  match P.underlying t with
  | some (.slice _) =>
   match op with
   | .eql => K (.bool a.isNone)
   | .neq => K (.bool (!a.isNone))
   | _ => False
  | _ => False
 | .map a, .map none =>
  match P.underlying t with
  | some (.map _ _) =>
   match op with
   | .eql => K (.bool a.isNone)
   | .neq => K (.bool (!a.isNone))
   | _ => False
  | _ => False
 | .agg xs, .agg ys =>
  match P.eqGuardType P.depth t || !isAggD (P.underlying t) with
  | true => False
  | false =>
   match leaves P 20 t with
   | none => False
   | some ls =>
    match op with
    | .eql => leavesOk ls xs.toList = true ∧ leavesOk ls ys.toList = true ∧ K (.bool (cellsEq xs.toList ys.toList))
    | .neq => leavesOk ls xs.toList = true ∧ leavesOk ls ys.toList = true ∧ K (.bool (!cellsEq xs.toList ys.toList))
    | _ => False
 | _, _ => False
def partOf (P : Program) (t : TypeId) (cs : List Value) (off : Nat) (K : Value → Prop) : Prop :=
 match P.info? t, P.underlying t with
 | some i, some d => anyOf (some d) (ldv (isAggD (some d)) (fun _ => some (.old cs)) 0 off i.size) K
 | _, _ => False
def fillL (place : Nat → Option (Nat × Nat)) (cells : List Value) : List (Nat × Value) → Option (List Value)
 | [] => some cells
 | (i, v) :: rest =>
  match place i with
  | none => none
  | some (off, size) =>
   match v with
   | .agg cs => if cs.toList.length ≠ size then none else if off + size > cells.length then none else fillL place (cells.take off ++ cs.toList ++ cells.drop (off + size)) rest
   | v => if size ≠ 1 then none else if off + 1 > cells.length then none else fillL place (cells.set off v) rest
def lookP (i : Nat) : List (Nat × Value) → Option Value
 | [] => none
 | (j, v) :: r => match Nat.beq i j with | true => some v | false => lookP i r
def segs (ps : List (Nat × Value)) : Nat → List Nat → List Value → (List Value → Prop) → Prop
 | _, [], _, K => K []
 | i, s :: r, z, K =>
  match lookP i ps with
  | none => segs ps (i + 1) r (z.drop s) fun cs => K (z.take s ++ cs)
  | some (.agg a) => a.toList.length = s ∧ segs ps (i + 1) r (z.drop s) fun cs => K (a.toList ++ cs)
  | some v => match Nat.beq s 1 with | true => segs ps (i + 1) r (z.drop s) fun cs => K (v :: cs) | false => False
def fieldSizes (P : Program) (off : Nat) : List Field → Option (List Nat)
 | [] => some []
 | f :: fs =>
  match P.info? f.type with
  | none => none
  | some i => match Nat.beq f.offset off with | false => none | true => match fieldSizes P (off + i.size) fs with | some l => some (i.size :: l) | none => none
def distinct : List Nat → Bool
 | [] => true
 | x :: r => r.all (fun y => !Nat.beq x y) && distinct r
def segOk (n : Nat) (ks : List Nat) : Bool := distinct ks && ks.all (fun k => Nat.blt k n)
def zcells (P : Program) (t : TypeId) : Option (List Value) := ((P.info? t).bind (·.zero)).map (·.cells.toList)
def parts (ρ : Env) (ps : List (Nat × Operand)) : List (Nat × Value) := ps.map fun x => (x.1, evalO ρ x.2)
def pSliced (a : Option Addr) (n c sz : Nat) (lo hi : Option Value) (K : Value → Prop) : Prop :=
 optInt lo 0 fun l => optInt hi n fun h => 0 ≤ l ∧ l ≤ h ∧ h ≤ c ∧ K (.slice (slA a c l.toNat sz) (h.toNat - l.toNat) (c - l.toNat))
def pOp (P : Program) (ρ : Env) (op : Op) (K : Value → Prop) : Prop :=
 match op with
 | .move x => K (evalO ρ x)
 | .assign x => K (evalO ρ x)
 | .pick c a b => match evalO ρ c with | .bool t => bcase t (K (evalO ρ a)) (K (evalO ρ b)) | _ => False
 | .nilCheck x => match evalO ρ x with | .pointer a => nilCk a fun b o => K (.pointer (some ⟨b, o, none⟩)) | _ => False
 | .binOp op t x y _ => pBin P op t (evalO ρ x) (evalO ρ y) K
 | .unOp op _ x =>
  match op, evalO ρ x with
  | .not, .bool b => K (.bool (!b))
  | .neg, .int k n => K (.int k (k.wrap (0 - n)))
  | _, _ => False
 | .convert s d x =>
  match P.underlying s, P.underlying d, evalO ρ x with
  | some (.int _), some (.int k), .int _ n => K (.int k (k.wrap n))
  | _, _, _ => False
 | .fieldAddr t x f =>
  match P.underlying t with
  | some (.struct fs) =>
   match fs[f]? with
   | some fl =>
    match P.info? fl.type with
    | some i => match Nat.beq i.size 0 with
     | true => False
     | false => match evalO ρ x with | .pointer a => nilCk a fun b o => K (.pointer (some ⟨b, o + fl.offset, none⟩)) | _ => False
    | none => False
   | none => False
  | _ => False
 | .indexAddr t x ix =>
  match P.underlying t with
  | some (.array n e) =>
   match P.info? e with
   | some i => match evalO ρ x with | .pointer a => intOfV (evalO ρ ix) fun j => nilCk a fun b o => 0 ≤ j ∧ j < n ∧ K (.pointer (some ⟨b, o + j.toNat * i.size, none⟩)) | _ => False
   | none => False
  | some (.slice e) =>
   match P.info? e with
   | some i => match evalO ρ x with | .slice a n _ => intOfV (evalO ρ ix) fun j => nilCk a fun b o => 0 ≤ j ∧ j < n ∧ K (.pointer (some ⟨b, o + j.toNat * i.size, none⟩)) | _ => False
   | none => False
  | _ => False
 | .index t x ix =>
  match P.underlying t with
  | some (.array n e) =>
   match P.info? e, evalO ρ x with
   | some i, .agg cs => intOfV (evalO ρ ix) fun j => 0 ≤ j ∧ j < n ∧ partOf P e cs.toList (j.toNat * i.size) K
   | _, _ => False
  | some .string =>
   match evalO ρ x with
   | .string s => intOfV (evalO ρ ix) fun j => 0 ≤ j ∧ ∃ c : UInt8, s.data.toList[j.toNat]? = some c ∧ K (.int .u8 c.toNat)
   | _ => False
  | _ => False
 | .field t x f =>
  match P.underlying t with
  | some (.struct fs) =>
   match fs[f]? with
   | some fl =>
    match evalO ρ x with
    | .agg cs => partOf P fl.type cs.toList fl.offset K
    | _ => False
   | none => False
  | _ => False
 | .build t ps =>
  match P.underlying t, zcells P t with
  | some (.struct fs), some z =>
   match fieldSizes P 0 fs.toList with
   | some szs => match segOk szs.length (ps.toList.map (·.1)) && Nat.beq szs.sum z.length with
    | true => segs (parts ρ ps.toList) 0 szs z fun cs => K (.agg cs.toArray)
    | false => False
   | none => False
  | some (.array n e), some z =>
   match P.info? e with
   | some ie => match segOk n (ps.toList.map (·.1)) && Nat.beq (n * ie.size) z.length with
    | true => segs (parts ρ ps.toList) 0 (List.replicate n ie.size) z fun cs => K (.agg cs.toArray)
    | false => False
   | none => False
  | _, _ => False
 | .extract x i => match evalO ρ x with | .tuple vs => (match vs.toList[i]? with | some v => K v | none => False) | _ => False
 | .makeFunc f a b => K (.func f (a.toList.map (evalO ρ)).toArray (b.toList.map (evalO ρ)).toArray)
 | .slice t x lo hi none =>
  match P.underlying t with
  | some (.slice e) =>
   match P.info? e, evalO ρ x with
   | some i, .slice a n c => pSliced a n c i.size (lo.map (evalO ρ)) (hi.map (evalO ρ)) K
   | _, _ => False
  | some (.array n e) =>
   match P.info? e, evalO ρ x with
   | some i, .pointer a => nilCk a fun b o => pSliced (some ⟨b, o, none⟩) n n i.size (lo.map (evalO ρ)) (hi.map (evalO ρ)) K
   | _, _ => False
  | some .string =>
   match evalO ρ x with
   | .string s => optInt (lo.map (evalO ρ)) 0 fun l => optInt (hi.map (evalO ρ)) s.size fun h => 0 ≤ l ∧ l ≤ h ∧ h ≤ s.size ∧ K (.string (s.extract l.toNat h.toNat))
   | _ => False
  | _ => False
 | .call c =>
  match c.callee, c.argTypes.toList, c.args.toList.map (evalO ρ) with
  | .builtin .len, [t], [v] =>
   match P.underlying t, v with
   | some .string, .string s => K (.int .i64 s.size)
   | some (.slice _), .slice _ n _ => K (.int .i64 n)
   | some (.array n _), _ => K (.int .i64 n)
   | _, _ => False
  | .builtin .min, _, [.int k x, .int _ y] => K (.int k (mn x y))
  | .builtin .max, _, [.int k x, .int _ y] => K (.int k (mx x y))
  | .builtin .min, _, [.int k x, .int _ y, .int _ z, .int _ u] => K (.int k (mn (mn (mn x y) z) u))
  | .builtin .max, _, [.int k x, .int _ y, .int _ z, .int _ u] => K (.int k (mx (mx (mx x y) z) u))
  | _, _, _ => False
 | _ => False
def lkup (es : List (Int × Value)) (k : Int) : Option Value := (es.find? (fun x => x.1 == k)).map (·.2)
def rOp (P : Program) (st : Option Hp) (ρ : Env) (op : Op) (h : Hp) (K : Value → Prop) : Prop :=
 match op with
 | .load t x =>
  match P.info? t, P.underlying t with
  | some i, some d =>
   match evalO ρ x with
   | .pointer a => nilCk a fun b o => stabK st h b (anyOf (some d) (ldv (isAggD (some d)) h b o i.size) K)
   | _ => False
  | _, _ => False
 | .lookup t m k ok =>
  match P.underlying t, zcells P t with
  | some (.map kt et), _ =>
   match P.underlying kt, (P.info? et).bind (·.zero), evalO ρ m, evalO ρ k with
   | some (.int .i64), some z, .map r, .int .i64 key =>
    ∃ b es, r = some b ∧ h b = some (.imap es) ∧ stabK st h b
     (match ok with
      | false => anyOf (P.underlying et) (fun v => v = (lkup es key).getD z) K
      | true => anyOf (P.underlying et) (fun v => v = (lkup es key).getD z) fun v => K (.tuple #[v, .bool (lkup es key).isSome]))
   | some (.struct _), some z, .map r, .agg cs =>
    pairT P kt = true ∧ ∃ b es key, r = some b ∧ h b = some (.pmap es) ∧ Value.agg cs = pairV key ∧ stabK st h b
     (match ok with
      | false => anyOf (P.underlying et) (fun v => v = (lkup es key).getD z) K
      | true => anyOf (P.underlying et) (fun v => v = (lkup es key).getD z) fun v => K (.tuple #[v, .bool (lkup es key).isSome]))
   | _, _, _, _ => False
  | _, _ => False
 | .call c =>
  match c.callee, c.argTypes.toList, c.args.toList.map (evalO ρ) with
  | .builtin .len, [t], [.map r] =>
   match P.underlying t with
   | some (.map _ _) => ∃ b es, r = some b ∧ h b = some (.imap es) ∧ stabK st h b (K (.int .i64 (es.length : Nat)))
   | _ => False
  | _, _, _ => False
 | _ => False
def offA (st : Option Hp) (a : Option Addr) (K : Prop) : Prop := match st with | none => K | some h0 => (∀ ad, a = some ad → h0 ad.block = none) ∧ K
def offK (st : Option Hp) (b : Nat) (K : Prop) : Prop := match st with | none => K | some h0 => h0 b = none ∧ K
def imapSet (es : List (Int × Value)) (k : Int) (v : Value) : List (Int × Value) :=
 match es with
 | [] => [(k, v)]
 | x :: r => if x.1 = k then (k, v) :: r else x :: imapSet r k v
def vcells : Value → List Value
 | .agg cs => cs.toList
 | v => [v]
def AppRes (h : Hp) (a : Option Addr) (n cap : Nat) (e : TypeId) (size : Nat) (ys : List Value) (m : Nat) (a' : Option Addr) (c' : Nat) (h' : Hp) : Prop :=
 (m = 0 ∧ a' = a ∧ c' = cap ∧ h' = h) ∨
 (m ≠ 0 ∧ a = none ∧ ∃ b', h b' = none ∧ m ≤ c' ∧ a' = some ⟨b', 0, none⟩ ∧ h' = h.set b' (.row e ys (c' * size))) ∨
 (m ≠ 0 ∧ ∃ b o c e0 sz, a = some ⟨b, o, none⟩ ∧ h b = some (.row e0 c sz) ∧
  ((n + m ≤ cap ∧ a' = a ∧ c' = cap ∧ h' = h.set b (.row e0 (c.take (o + n * size) ++ ys) sz)) ∨
   (cap < n + m ∧ ∃ b', h b' = none ∧ n + m ≤ c' ∧ a' = some ⟨b', 0, none⟩ ∧ h' = (h.del b).set b' (.row e ((c.drop o).take (n * size) ++ ys) (c' * size)))))
def AppPre (h : Hp) (a : Option Addr) (n cap size bytes : Nat) (ys : List Value) (m : Nat) : Prop :=
 (a = none → n = 0 ∧ cap = 0) ∧ n ≤ cap ∧ (n + m) * bytes ≤ 140737488355328 ∧ n + m ≤ 140737488355328 ∧ ys.length = m * size ∧ allOne ys = true ∧
 (m ≠ 0 → ∀ ad, a = some ad → ∃ b o c e0 sz, ad = ⟨b, o, none⟩ ∧ h b = some (.row e0 c sz) ∧ o + n * size ≤ c.length ∧ o + cap * size ≤ sz)
def appOp (h : Hp) (a : Option Addr) (n cap : Nat) (e : TypeId) (size bytes : Nat) (ys : List Value) (m : Nat) (K : Value → Hp → Prop) : Prop :=
 AppPre h a n cap size bytes ys m ∧ ∀ a' c' h', AppRes h a n cap e size ys m a' c' h' → K (.slice a' (n + m) c') h'
def Ext (h0 h' : Hp) : Prop := ∀ b k, h0 b = some k → h' b = some k
section
variable (P : Program) (w0 : World)
def MapAt (kv : Int → Value) (w : World) (b : Nat) (es : List (Int × Value)) : Prop := ∃ (es' : Array MapEntry) (clk : Nat), w.heap[b]? = some (.map es' clk) ∧
   es'.toList.map (fun x => (x.key, x.val)) = es.map (fun x => (kv x.1, x.2)) ∧
   (es'.toList.map (·.born)).Pairwise (· < ·) ∧ (∀ x ∈ es'.toList, x.born < clk) ∧ (es.map (·.1)).Nodup
def BlkAt (w : World) (b : Nat) : Blk → Prop
 | .row e c sz => w0.heap.size ≤ b ∧ ∃ c' : Array Value, w.heap[b]? = some (.cells c' e (0, 0)) ∧ c'.size = sz ∧ c'.toList.take c.length = c
 | .old c => b < w0.heap.size ∧ ∃ (c' : Array Value) (e : TypeId) (fr : Nat × Nat), w.heap[b]? = some (.cells c' e fr) ∧ c'.toList.take c.length = c
 | .imap es => w0.heap.size ≤ b ∧ ∃ (es' : Array MapEntry) (clk : Nat), w.heap[b]? = some (.map es' clk) ∧
   es'.toList.map (fun x => (x.key, x.val)) = es.map (fun x => (Value.int .i64 x.1, x.2)) ∧
   (es'.toList.map (·.born)).Pairwise (· < ·) ∧ (∀ x ∈ es'.toList, x.born < clk) ∧ (es.map (·.1)).Nodup
 | .obj o => w0.heap.size ≤ b ∧ w.heap[b]? = some o
 | .pmap es => w0.heap.size ≤ b ∧ MapAt pairV w b es
structure View (h : Hp) (w : World) : Prop where
 below : Below w0.heap.size w0 w
 blk : ∀ b k, h b = some k → BlkAt w0 w b k
def Tri (f : FuncId) (args : Array Value) (h : Hp) (Q : Value → Hp → Prop) : Prop :=
 ∀ w, View w0 h w → Calls P f args w (fun e w' => ∃ r h', e = .returned r ∧ Q r h' ∧ View w0 h' w')
def callable (k : FuncId) : Option (List TypeId) :=
 match P.funcs[k]? with
 | none => none
 | some fn => match fn.name == "runtime.NumGoroutine" with
  | true => none
  | false => match fn.body.isSome with | true => some fn.resultTypes.toList | false => none
def xOp (st : Option Hp) (ρ : Env) (op : Op) (h : Hp) (K : Value → Hp → Prop) : Prop :=
 match op with
 | .alloc t =>
  match zcells P t with
  | some z => ∀ b, h b = none → K (.pointer (some ⟨b, 0, none⟩)) (h.set b (.row t z z.length))
  | none => False
 | .box t x => ∀ b, h b = none → K (.pointer (some ⟨b, 0, none⟩)) (h.set b (.row t (vcells (evalO ρ x)) (vcells (evalO ρ x)).length))
 | .buildSlice t n ps =>
  match P.underlying t with
  | some (.slice e) =>
   match P.info? e, zcells P e with
   | some i, some z =>
    match segOk n (ps.toList.map (·.1)) && Nat.beq z.length i.size && Nat.ble (n * i.size) 16777216 with
    | true => segs (parts ρ ps.toList) 0 (List.replicate n i.size) (List.replicate n z).flatten fun cs =>
      ∀ b, h b = none → K (.slice (some ⟨b, 0, none⟩) n n) (h.set b (.row e cs cs.length))
    | false => False
   | _, _ => False
  | _ => False
 | .makeMap t none =>
  match pairM P t with
  | true => ∀ b, h b = none → K (.map (some b)) (h.set b (.pmap []))
  | false => ∀ b, h b = none → K (.map (some b)) (h.set b (.imap []))
 | .makeChan t x =>
  match P.underlying t, evalO ρ x with
  | some (.chan _ e), .int _ (.ofNat m) =>
   match P.info? e with
   | some i => m ≤ 9223372036854775807 ∧ i.bytes * m ≤ 281474976710544 ∧ ∀ b, h b = none → K (.chan (some b)) (h.set b (.obj (.chan m #[] false 0 0 false)))
   | none => False
  | _, _ => False
 | .store t x v =>
  match P.info? t with
  | some i =>
   match evalO ρ x with
   | .pointer a => nilCk a fun b o => offK st b (∃ e c sz, h b = some (.row e c sz) ∧
     (match evalO ρ v with
      | .agg cs => cs.toList.length = i.size ∧ allOne cs.toList = true ∧ o + i.size ≤ c.length ∧ K undef (h.set b (.row e (c.take o ++ cs.toList ++ c.drop (o + i.size)) sz))
      | .tuple _ => False
      | u => match Nat.beq i.size 1 with | true => o < c.length ∧ K undef (h.set b (.row e (c.set o u) sz)) | false => False))
   | _ => False
  | none => False
 | .mapUpdate t m k v =>
  match P.underlying t, evalO ρ m, evalO ρ k with
  | some (.map kt _), .map r, .int .i64 key =>
   match P.underlying kt with
   | some (.int .i64) => ∃ b es, r = some b ∧ h b = some (.imap es) ∧ offK st b (K undef (h.set b (.imap (imapSet es key (evalO ρ v)))))
   | _ => False
  | some (.map kt _), .map r, .agg cs => pairT P kt = true ∧ ∃ b es key, r = some b ∧ h b = some (.pmap es) ∧ Value.agg cs = pairV key ∧ offK st b (K undef (h.set b (.pmap (imapSet es key (evalO ρ v)))))
  | _, _, _ => False
 | .call c =>
  match c.callee with
  | .value f =>
   match evalO ρ f with
   | .func (.func k) first cap =>
    match callable P k with
    | none => False
    | some ts =>
     Tri P w0 k (first.toList ++ c.args.toList.map (evalO ρ) ++ cap.toList).toArray h fun r h' =>
      match st with
      | none => shaped P ts r fun r' => K r' h'
      | some h0 => Ext h0 h' ∧ shaped P ts r fun r' => K r' h'
   | v => ∃ k first cap ts, v = .func (.func k) first cap ∧ callable P k = some ts ∧
     Tri P w0 k (first.toList ++ c.args.toList.map (evalO ρ) ++ cap.toList).toArray h fun r h' =>
      match st with
      | none => shaped P ts r fun r' => K r' h'
      | some h0 => Ext h0 h' ∧ shaped P ts r fun r' => K r' h'
  | .builtin .append =>
   match c.argTypes.toList, c.args.toList.map (evalO ρ) with
   | [t, t2], [.slice a n cap, .slice a2 m _] =>
    match P.underlying t, P.underlying t2 with
    | some (.slice e), some (.slice _) =>
     match P.info? e with
     | some i => match i.zero with
      | some z => match Nat.beq z.cells.toList.length i.size with
       | true => offA st a (∃ ys, slCells h a2 m i.size ys ∧ appOp h a n cap e i.size i.bytes ys m K)
       | false => False
      | none => False
     | none => False
    | _, _ => False
   | _, _ => False
  | .builtin .clear =>
   match c.argTypes.toList, c.args.toList.map (evalO ρ) with
   | [t], [.slice a n _] =>
    match P.underlying t with
    | some (.slice e) =>
     match zcells P e with
     | some z =>
      match n with
      | 0 => K (.tuple #[]) h
      | n + 1 => nilCk a fun b o => offK st b (∃ el c sz, h b = some (.row el c sz) ∧ 0 < z.length ∧ allOne (List.replicate (n + 1) z).flatten = true ∧ o + (List.replicate (n + 1) z).flatten.length ≤ c.length ∧
        K (.tuple #[]) (h.set b (.row el (c.take o ++ (List.replicate (n + 1) z).flatten ++ c.drop (o + (List.replicate (n + 1) z).flatten.length)) sz)))
     | none => False
    | _ => False
   | _, _ => False
  | .builtin .len =>
   match c.argTypes.toList, c.args.toList.map (evalO ρ) with
   | [t], [.chan r] =>
    match P.underlying t with
    | some (.chan _ _) => ∃ b cap buf cl s rr, r = some b ∧ h b = some (.obj (.chan cap buf cl s rr false)) ∧ K (.int .i64 buf.size) h
    | _ => False
   | _, _ => False
  | .builtin .delete =>
   match st, c.argTypes.toList, c.args.toList.map (evalO ρ) with
   | none, t :: _, [.map r, .int .i64 key] =>
    match P.underlying t with
    | some (.map kt _) =>
     match P.underlying kt with
     | some (.int .i64) => ∃ b es, r = some b ∧ h b = some (.imap es) ∧ K (.tuple #[]) (h.set b (.imap (es.filter (fun x => !(x.1 == key)))))
     | _ => False
    | _ => False
   | none, t :: _, [.map r, .agg cs] =>
    match P.underlying t with
    | some (.map kt _) => pairT P kt = true ∧ ∃ b es key, r = some b ∧ h b = some (.pmap es) ∧ Value.agg cs = pairV key ∧ K (.tuple #[]) (h.set b (.pmap (es.filter (fun x => !(x.1 == key)))))
    | _ => False
   | _, _, _ => False
  | _ => False
 | _ => False
end
def cls (P : Program) : Op → Cls
 | .load .. => .R
 | .lookup .. => .R
 | .call c =>
  match c.callee with
  | .builtin .len => match (c.argTypes.toList.head?).bind P.underlying with
   | some (.map _ _) => .R
   | some (.chan _ _) => .X
   | _ => .P
  | .builtin .min => .P
  | .builtin .max => .P
  | _ => .X
 | .move _ => .P
 | .assign _ => .P
 | .pick .. => .P
 | .nilCheck _ => .P
 | .binOp .. => .P
 | .unOp .. => .P
 | .convert .. => .P
 | .fieldAddr .. => .P
 | .indexAddr .. => .P
 | .index .. => .P
 | .field .. => .P
 | .build .. => .P
 | .extract .. => .P
 | .makeFunc .. => .P
 | .slice .. => .P
 | _ => .X
def asked (all : List Oper) (d : Option Tmp) : Bool :=
 match d with
 | none => false
 | some d => all.any fun o => (match o.op with | .pick (.tmp t) _ _ => Nat.beq t d | _ => false) ||
   (match o.guard with | some (j, _) => (match (all[j]?).bind (·.dst) with | some t => Nat.beq t d | none => false) | none => false)
def put (n : Nat) (ρ : Env) (d : Option Tmp) (v : Value) (K : Env → Prop) : Prop :=
 match d with
 | none => K ρ
 | some d => match Nat.blt d n with | true => K (ρ.put d v) | false => False
def splitV (s : Bool) (v : Value) (K : Value → Prop) : Prop :=
 match s with
 | false => K v
 | true => match v with | .bool b => bcase b (K (.bool true)) (K (.bool false)) | v => K v
def guarded (all : List Oper) (ρ : Env) (o : Oper) (skip go : Prop) : Prop :=
 match o.guard with
 | none => go
 | some (j, want) =>
  match (all[j]?).bind (·.dst) with
  | none => skip
  | some t => match ρ t with | .bool b => bcase (b == want) go skip | _ => skip
section
variable (P : Program) (w0 : World)
def vStep (n : Nat) (all : List Oper) (st sx : Option Hp) (o : Oper) (K : Env → Hp → Prop) (ρ : Env) (h : Hp) : Prop :=
 guarded all ρ o (put n ρ o.dst undef fun ρ' => K ρ' h)
  (match cls P o.op with
   | .P => pOp P ρ o.op fun v => splitV (asked all o.dst) v fun v => put n ρ o.dst v fun ρ' => K ρ' h
   | .R => rOp P st ρ o.op h fun v => splitV (asked all o.dst) v fun v => put n ρ o.dst v fun ρ' => K ρ' h
   | .X => xOp P w0 sx ρ o.op h fun v h' => splitV (asked all o.dst) v fun v => put n ρ o.dst v fun ρ' => K ρ' h')
def vOps (n : Nat) (all : List Oper) (K : Env → Hp → Prop) : List Oper → Env → Hp → Prop
 | [], ρ, h => K ρ h
 | o :: r, ρ, h => vStep P w0 n all none none o (vOps n all K r) ρ h
def selOf (ops : List Oper) : Option (SelectCase × Option Tmp × List Oper) :=
 match ops with
 | [] => none
 | o :: r => match o.op with
  | .select cs false => match o.guard, cs.toList with | none, [c] => some (c, o.dst, r) | _, _ => none
  | _ => none
def selV (c : SelectCase) (ρ : Env) (h : Hp) (K : Value → Hp → Prop) : Prop :=
 match (P.info? c.elem).bind (·.zero), evalO ρ c.chan with
 | some z, .chan (some b) => ∃ cap buf s r, h b = some (.obj (.chan cap buf false s r false)) ∧
   (match c.send with
    | some x => (buf.size < cap → K (.tuple #[goInt 0, .bool false]) (h.set b (.obj (.chan cap (buf.push (evalO ρ x)) false (s + 1) r false)))) ∧ (cap ≤ buf.size → K (.tuple #[goInt (-1), .bool false]) h)
    | none => (0 < buf.size → K (.tuple #[goInt 0, .bool true, buf.getD 0 undef]) (h.set b (.obj (.chan cap (buf.extract 1 buf.size) false s (r + 1) false)))) ∧ (buf = #[] → K (.tuple #[goInt (-1), .bool false, z]) h))
 | _, _ => False
inductive Ordr where
 | nil
 | op (i : Nat) (r : Ordr)
 | both (x y : Ordr)
def Ordr.elems : Ordr → List Nat
 | .nil => []
 | .op i r => i :: r.elems
 | .both x _ => x.elems
def Ordr.heads : Ordr → List Nat
 | .nil => []
 | .op i _ => [i]
 | .both x y => x.heads ++ y.heads
def Ordr.take : Nat → Ordr → List Nat
 | 0, _ => []
 | n + 1, .op i r => i :: Ordr.take n r
 | _ + 1, _ => []
def Ordr.drop : Nat → Ordr → Ordr
 | 0, t => t
 | n + 1, .op _ r => Ordr.drop n r
 | _ + 1, t => t
def Ordr.app : List Nat → Ordr → Ordr
 | [], t => t
 | i :: l, t => .op i (Ordr.app l t)
theorem Ordr.app_take_drop : ∀ (n : Nat) (t : Ordr), Ordr.app (Ordr.take n t) (Ordr.drop n t) = t
 | 0, t => by cases t <;> rfl
 | n + 1, .op i r => congrArg (Ordr.op i) (Ordr.app_take_drop n r)
 | n + 1, .nil => rfl
 | n + 1, .both x y => rfl
structure RegHint where
 order : Ordr
 kp : Nat
 st : Nat
 np : Nat
 xm : Nat
def vDraw (n : Nat) (all : List Oper) (kp st : Nat) (h0 : Hp) (K : Env → Hp → Prop) : Ordr → Env → Hp → Prop
 | .nil, ρ, h => K ρ h
 | .both x y, ρ, h => vDraw n all kp st h0 K x ρ h ∧ vDraw n all kp st h0 K y ρ h
 | .op i r, ρ, h =>
  match all[i]? with
  | none => False
  | some o => vStep P w0 n all (match st.testBit i with | true => some h0 | false => none) (match kp.testBit i with | true => some h0 | false => none) o (vDraw n all kp st h0 K r) ρ h
end
def directs (o : Oper) : List Nat := o.after.toList.filterMap fun e => if Region.binds .any e then some e.on else none
def befs (ops : List Oper) : List Nat :=
 ops.foldl (fun acc o => acc ++ [(directs o).foldl (fun s e => s ||| 2 ^ e ||| acc.getD e 0) 0]) []
def befChk (bf : List Nat) : Nat → List Oper → Bool
 | _, [] => true
 | j, o :: r => Nat.beq (bf.getD j 0) ((directs o).foldl (fun s e => s ||| 2 ^ e ||| bf.getD e 0) 0) && befChk bf (j + 1) r
def clsM (P : Program) (xm i : Nat) (op : Op) : Cls := match xm.testBit i with | true => .X | false => cls P op
def isX (P : Program) (xm : Nat) (ops : Array Oper) : Ordr → Bool
 | .nil => false
 | .op i _ => match ops[i]? with | some o => (match clsM P xm i o.op with | .X => true | _ => false) | none => false
 | .both x y => isX P xm ops x && isX P xm ops y
def ordChk (P : Program) (xm : Nat) (ops : Array Oper) (bf : List Nat) (kp st : Nat) : List Nat → List Nat → Ordr → Bool
 | _, _, .nil => true
 | sib, done, .both x y => isX P xm ops x && isX P xm ops y && x.elems.all (fun j => y.elems.contains j) && Nat.beq x.elems.length y.elems.length &&
   ordChk P xm ops bf kp st (sib ++ y.heads) done x && ordChk P xm ops bf kp st (sib ++ x.heads) done y
 | sib, done, .op i rest =>
  match ops[i]? with
  | none => false
  | some oi =>
   !done.contains i && (directs oi).all (fun e => done.contains e) &&
   (match clsM P xm i oi.op with
    | .P => sib.isEmpty && rest.elems.all fun j => (bf.getD j 0).testBit i || (match ops[j]? with | some oj => oi.apart ops oj | none => false)
    | .R => sib.isEmpty && rest.elems.all fun j => (bf.getD j 0).testBit i || (match ops[j]? with
           | some oj => oi.apart ops oj && (match clsM P xm j oj.op with | .X => kp.testBit j && st.testBit i | _ => true)
           | none => false)
    | .X => rest.elems.all fun j => sib.contains j || (match ops[j]? with | some oj => (directs oj).any (fun e => !done.contains e) | none => false)) &&
   ordChk P xm ops bf kp st [] (i :: done) rest
def regChk (P : Program) (ops : Array Oper) (hn : RegHint) : Bool :=
 Region.noSelect ops && (List.range ops.size).all (fun j => hn.order.elems.contains j) && Nat.beq hn.order.elems.length ops.size &&
 befChk (befs ops.toList) 0 ops.toList && ordChk P hn.xm ops (befs ops.toList) hn.kp hn.st [] [] hn.order
structure Enc (X : Type) where
 enc : X → Env → Env
 dec : Env → (X → Prop) → Prop
 ok : ∀ ρ p, dec ρ p → ∃ x, enc x ρ = ρ ∧ p x
theorem put_same {ρ : Env} {s : Nat} {v : Value} (h : ρ s = v) : ρ.put s v = ρ := by
 funext i
 unfold Env.put
 cases hx : Nat.beq i s
 ·rfl
 ·rw [Nat.eq_of_beq_eq_true hx, h]
def Enc.unit : Enc Unit := ⟨fun _ ρ => ρ, fun _ p => p (), fun _ _ h => ⟨(), rfl, h⟩⟩
structure LoopAnn where
 X : Type
 e : Enc X
 I : X → Hp → Prop
 mu : X → Hp → Nat
def setK (h : Hp) (b : Nat) (k : Blk) (K : Hp → Prop) : Prop := K (h.set b k)
def firstReg : Code → Option Nat
 | .region id _ _ => some id
 | .seq a b => (firstReg a).or (firstReg b)
 | .cond _ a b => (firstReg a).or (firstReg b)
 | .block _ b => firstReg b
 | .loop b => firstReg b
 | .scope b => firstReg b
 | _ => none
def thenQ (next : Env → Hp → Prop) (Q : Exit → Env → Hp → Prop) : Exit → Env → Hp → Prop
 | .normal, ρ, h => next ρ h
 | e, ρ, h => Q e ρ h
def blockQ (id : Nat) (Q : Exit → Env → Hp → Prop) : Exit → Env → Hp → Prop
 | .exit id', ρ, h => match Nat.beq id' id with | true => Q .normal ρ h | false => Q (.exit id') ρ h
 | e, ρ, h => Q e ρ h
def scopeQ (Q : Exit → Env → Hp → Prop) : Exit → Env → Hp → Prop
 | .goto _, _, _ => False
 | e, ρ, h => Q e ρ h
section
variable (P : Program) (w0 : World)
def vc (ann : Nat → LoopAnn) (rh : Nat → RegHint) (n : Nat) : Code → (Exit → Env → Hp → Prop) → Env → Hp → Prop
 | .skip, Q, ρ, h => Q .normal ρ h
 | .label _, Q, ρ, h => Q .normal ρ h
 | .exit id, Q, ρ, h => Q (.exit id) ρ h
 | .ret, Q, ρ, h => Q .ret ρ h
 | .region id ops draw, Q, ρ, h =>
  match draw with
  | false => match selOf ops.toList with
   | none => vOps P w0 n ops.toList (Q .normal) ops.toList ρ h
   | some (c, d, r) => selV P c ρ h fun v h' => put n ρ d v fun ρ' => vOps P w0 n ops.toList (Q .normal) r ρ' h'
  | true => match regChk P ops (rh id) with
   | true => match Nat.beq (rh id).kp 0 with
    | true => vDraw P w0 n ops.toList (rh id).kp (rh id).st h (Q .normal) (rh id).order ρ h
    | false => ∃ hk : Hp, Ext hk h ∧ vDraw P w0 n ops.toList (rh id).kp (rh id).st hk (Q .normal) (rh id).order ρ h
   | false => False
 | .seq a b, Q, ρ, h => vc ann rh n a (thenQ (vc ann rh n b Q) Q) ρ h
 | .cond c a b, Q, ρ, h => match evalO ρ c with | .bool t => bcase t (vc ann rh n a Q ρ h) (vc ann rh n b Q ρ h) | _ => False
 | .block id b, Q, ρ, h => vc ann rh n b (blockQ id Q) ρ h
 | .scope b, Q, ρ, h => vc ann rh n b (scopeQ Q) ρ h
 | .loop b, Q, ρ, h =>
  match firstReg b with
  | none => False
  | some id =>
   (ann id).e.dec ρ (fun x => (ann id).I x h) ∧
   ∀ (J : Env) x h', (ann id).I x h' →
    vc ann rh n b (thenQ (fun ρ'' h'' => (ann id).e.dec ρ'' fun x'' => (ann id).I x'' h'' ∧ (ann id).mu x'' h'' < (ann id).mu x h') Q) ((ann id).e.enc x J) h'
 | _, _, _, _ => False
def resOf (rs : List ResultVar) (ρ : Env) (h : Hp) (K : Value → Prop) : Prop :=
 match rs with
 | [] => K (.tuple #[])
 | [.tmp t] => K (ρ t)
 | [.cell a t] => resCell t (ρ a) h K
 | [.tmp t, .tmp u] => K (.tuple #[ρ t, ρ u])
 | [.cell a t, .tmp u] => resCell t (ρ a) h fun v => K (.tuple #[v, ρ u])
 | [.tmp t, .cell b u] => resCell u (ρ b) h fun v => K (.tuple #[ρ t, v])
 | [.cell a t, .cell b u] => resCell t (ρ a) h fun v => resCell u (ρ b) h fun x => K (.tuple #[v, x])
 | [.tmp t, .tmp u, .tmp s] => K (.tuple #[ρ t, ρ u, ρ s])
 | [.cell a t, .tmp u, .tmp s] => resCell t (ρ a) h fun v => K (.tuple #[v, ρ u, ρ s])
 | _ => False
where resCell (t : TypeId) (p : Value) (h : Hp) (K : Value → Prop) : Prop :=
 match P.info? t, P.underlying t, p with
 | some i, some d, .pointer a => nilCk a fun b o => anyOf (some d) (ldv (isAggD (some d)) h b o i.size) K
 | _, _, _ => False
def env0 (args : List Value) : Env := fun i => args.getD i undef
end
end Go.Vw
