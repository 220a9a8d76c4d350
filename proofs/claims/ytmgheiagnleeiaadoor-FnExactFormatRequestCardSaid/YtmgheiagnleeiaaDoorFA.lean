/- A checked evaluator of the model's code, part A. -/
import Derived.Calls
import Derived.Orders
import Derived.Below
import Derived.MapKept
import Derived.Deep.MidRow
import Derived.Laws.CopyRow
import Derived.Laws.Append
import Derived.Laws.Build
import Derived.Laws.Strings
import Derived.Laws.Concat
import Derived.WalkKit
set_option linter.all false
section
/- The abstract executor's words: abstract values, abstract states, and the abstract weakest precondition over the model's code. No condition. -/
namespace Go.Rs
abbrev Bs := List UInt8
structure Nd where
  kind : Int
  num : Int
  text : Bs
  names : List Bs
  kids : List Nd
structure Sh where
  kind : Int
  names : List Bs
  needs : List Bool
  kids : List Sh
structure It where
  name : Bs
  version : Int
  node : Nd
structure Sto where
  items : List It
  clock : Int
structure Opn where
  kind : Int
  path : List Bs
  frm : List Bs
  value : Nd
structure Chg where
  name : Bs
  gone : Bool
  node : Nd
structure Nws where
  name : Bs
  gone : Bool
  node : Nd
  version : Int
structure Flt where
  path : List Bs
  test : Int
  value : Nd
structure Req where
  method : Int
  name : Bs
  want : List Bs
  avoid : List Bs
  body : Nd
  ops : List Opn
structure Rsp where
  status : Int
  tag : Bs
  version : Int
  body : Nd
instance : Inhabited Nd := ⟨⟨0, 0, [], [], []⟩⟩
instance : Inhabited Sh := ⟨⟨0, [], [], []⟩⟩
instance : Inhabited It := ⟨⟨[], 0, default⟩⟩
instance : Inhabited Sto := ⟨⟨[], 0⟩⟩
instance : Inhabited Opn := ⟨⟨0, [], [], default⟩⟩
instance : Inhabited Chg := ⟨⟨[], false, default⟩⟩
instance : Inhabited Nws := ⟨⟨[], false, default, 0⟩⟩
instance : Inhabited Flt := ⟨⟨[], 0, default⟩⟩
instance : Inhabited Req := ⟨⟨0, [], [], [], default, []⟩⟩
instance : Inhabited Rsp := ⟨⟨0, [], 0, default⟩⟩
inductive El where
  | u8 | i64 | bool | str | strs | node | shape | item | opn | chg | nws | flt | req | rsp
  deriving DecidableEq
@[reducible] def ElT : El → Type
  | .u8 | .i64 => Int
  | .bool => Bool
  | .str => Bs
  | .strs => List Bs
  | .node => Nd
  | .shape => Sh
  | .item => It
  | .opn => Opn
  | .chg => Chg
  | .nws => Nws
  | .flt => Flt
  | .req => Req
  | .rsp => Rsp
def elDef : (E : El) → ElT E
  | .u8 | .i64 => (0 : Int)
  | .bool => false
  | .str => ([] : Bs)
  | .strs => ([] : List Bs)
  | .node => (default : Nd)
  | .shape => (default : Sh)
  | .item => (default : It)
  | .opn => (default : Opn)
  | .chg => (default : Chg)
  | .nws => (default : Nws)
  | .flt => (default : Flt)
  | .req => (default : Req)
  | .rsp => (default : Rsp)
inductive AV where
  | opq
  | int (k : IntKind) (n : Int)
  | bool (b : Bool)
  | str (s : Bs)
  | st (cells : List AV)
  | ps (E : El) (l : List (ElT E))
  | niln
  | nils (E : El)
  | ls (id : Nat)
  | own (E : El) (l : List (ElT E))
  | dp (E : El) (l : List (ElT E))
  | wr (E : El) (l : List (ElT E))
  | lp (id off : Nat)
  | ref (cells : List AV)
  | rb (s : Bs)
  | ep (E : El) (l : List (ElT E)) (i : Int) (off : Nat)
  | ap (E : El) (id : Nat) (i : Int) (off : Nat)
  | nilp
  | ifc (isnil : Bool)
  | fn (f : Nat) (caps : List AV)
  | tup (l : List AV)
inductive LC where
  | box (cells : List AV)
  | arr (E : El) (l : List (ElT E))
  | frz (E : El) (l : List (ElT E))
  | tree (E : El) (l : List (ElT E))
  | raw (E : El) (l : List (ElT E))
  | bld (s : Bs)
  | mp (l : List (Bs × Int))
def mget : List (Bs × Int) → Bs → Option Int
  | [], _ => none
  | (k, z) :: r, s => if k = s then some z else mget r s
def BT : Nat := 79
def B8 : Nat := 5
def MX : Nat := 140737488355328
def esz : El → Nat
  | .u8 | .i64 | .bool | .str | .strs => 1
  | .node => 5
  | .shape => 4
  | .item => 7
  | .opn => 8
  | .chg => 7
  | .nws => 8
  | .flt => 7
  | .req => 10
  | .rsp => 8
def ndC (n : Nd) : List AV := [.int .i64 n.kind, .int .i64 n.num, .str n.text, .ps .str n.names, .ps .node n.kids]
def enc : (E : El) → ElT E → List AV
  | .u8, n => [.int .u8 n]
  | .i64, n => [.int .i64 n]
  | .bool, b => [.bool b]
  | .str, s => [.str s]
  | .strs, l => [.ps .str l]
  | .node, n => ndC n
  | .shape, x => [.int .i64 x.kind, .ps .str x.names, .ps .bool x.needs, .ps .shape x.kids]
  | .item, x => .str x.name :: .int .i64 x.version :: ndC x.node
  | .opn, x => .int .i64 x.kind :: .ps .str x.path :: .ps .str x.frm :: ndC x.value
  | .chg, x => .str x.name :: .bool x.gone :: ndC x.node
  | .nws, x => .str x.name :: .bool x.gone :: (ndC x.node ++ [.int .i64 x.version])
  | .flt, x => .ps .str x.path :: .int .i64 x.test :: ndC x.value
  | .req, x => .int .i64 x.method :: .str x.name :: .ps .str x.want :: .ps .str x.avoid :: (ndC x.body ++ [.ps .opn x.ops])
  | .rsp, x => .int .i64 x.status :: .str x.tag :: .int .i64 x.version :: ndC x.body
def dec : (E : El) → List AV → Option (ElT E)
  | .u8, [.int .u8 n] => some n
  | .i64, [.int .i64 n] => some n
  | .bool, [.bool b] => some b
  | .str, [.str s] => some s
  | .strs, [.ps .str l] => some l
  | .node, [.int .i64 a, .int .i64 b, .str c, .ps .str d, .ps .node e] => some ⟨a, b, c, d, e⟩
  | .shape, [.int .i64 a, .ps .str d, .ps .bool e, .ps .shape f] => some ⟨a, d, e, f⟩
  | .item, [.str n, .int .i64 v, .int .i64 a, .int .i64 b, .str c, .ps .str d, .ps .node e] => some ⟨n, v, ⟨a, b, c, d, e⟩⟩
  | .opn, [.int .i64 k, .ps .str p, .ps .str q, .int .i64 a, .int .i64 b, .str c, .ps .str d, .ps .node e] => some ⟨k, p, q, ⟨a, b, c, d, e⟩⟩
  | .chg, [.str n, .bool v, .int .i64 a, .int .i64 b, .str c, .ps .str d, .ps .node e] => some ⟨n, v, ⟨a, b, c, d, e⟩⟩
  | .nws, [.str n, .bool v, .int .i64 a, .int .i64 b, .str c, .ps .str d, .ps .node e, .int .i64 x] => some ⟨n, v, ⟨a, b, c, d, e⟩, x⟩
  | .flt, [.ps .str p, .int .i64 k, .int .i64 a, .int .i64 b, .str c, .ps .str d, .ps .node e] => some ⟨p, k, ⟨a, b, c, d, e⟩⟩
  | .req, [.int .i64 m, .str n, .ps .str p, .ps .str q, .int .i64 a, .int .i64 b, .str c, .ps .str d, .ps .node e, .ps .opn o] => some ⟨m, n, p, q, ⟨a, b, c, d, e⟩, o⟩
  | .rsp, [.int .i64 m, .str n, .int .i64 v, .int .i64 a, .int .i64 b, .str c, .ps .str d, .ps .node e] => some ⟨m, n, v, ⟨a, b, c, d, e⟩⟩
  | _, _ => none
theorem dec_enc {E : El} {cs : List AV} {x : ElT E} (h : dec E cs = some x) : enc E x = cs := by
  unfold dec at h
  split at h <;> first | (cases h; rfl) | (cases h)
theorem nd_eta (n : Nd) : (⟨n.kind, n.num, n.text, n.names, n.kids⟩ : Nd) = n := by cases n; rfl
theorem sh_eta (n : Sh) : (⟨n.kind, n.names, n.needs, n.kids⟩ : Sh) = n := by cases n; rfl
theorem enc_len (E : El) (x : ElT E) : (enc E x).length = esz E := by
  cases E <;> simp [enc, esz, ndC]
end Go.Rs
end
section
namespace Go.Rs
inductive TI where
  | int (k : IntKind) | bool | str | st (fields : List (Nat × Nat)) (zero : List AV) | sl (E : El) | ptr | fn | mp | ifc | other
abbrev Tab := Nat → TI
structure Ent where
  g : List (Nat × Bool)
  v : AV
structure AS where
  env : Nat → Ent
  locs : Nat → Option LC
  used : Nat → Bool
def upd {β : Type} (f : Nat → β) (d : Nat) (v : β) : Nat → β := fun t => match Nat.beq t d with | true => v | false => f t
def mentG (d : Nat) : List (Nat × Bool) → Bool
  | [] => false
  | (t, _) :: r => match Nat.beq t d with
    | true => true
    | false => mentG d r
def purge (d : Nat) : Ent → Ent
  | ⟨g, v⟩ => match mentG d g with
    | true => ⟨[], .opq⟩
    | false => ⟨g, v⟩
def putE (env : Nat → Ent) (d : Nat) (e : Ent) : Nat → Ent := fun t => match Nat.beq t d with
  | true => e
  | false => purge d (env t)
def AS.put (s : AS) (d : Nat) (e : Ent) : AS := ⟨putE s.env d e, s.locs, s.used⟩
def seqL {β : Type} : List AV → (List AV → β) → β
  | [], K => K []
  | a :: l, K => seqL l fun l' => K (a :: l')
def seqB {β : Type} : Bs → (Bs → β) → β
  | [], K => K []
  | a :: l, K => seqB l fun l' => K (a :: l')
def fv {β : Type} : AV → (AV → β) → β
  | .opq, K => K .opq
  | .int k n, K => K (.int k n)
  | .bool b, K => K (.bool b)
  | .str s, K => K (.str s)
  | .st cells, K => seqL cells fun cs => K (.st cs)
  | .ps E l, K => K (.ps E l)
  | .niln, K => K .niln
  | .ifc b, K => K (.ifc b)
  | .nils E, K => K (.nils E)
  | .ls id, K => K (.ls id)
  | .own E l, K => K (.own E l)
  | .dp E l, K => K (.dp E l)
  | .wr E l, K => K (.wr E l)
  | .lp id off, K => K (.lp id off)
  | .ref cells, K => K (.ref cells)
  | .rb s, K => K (.rb s)
  | .ep E l i off, K => K (.ep E l i off)
  | .ap E id i off, K => K (.ap E id i off)
  | .nilp, K => K .nilp
  | .fn f caps, K => seqL caps fun cs => K (.fn f cs)
  | .tup l, K => seqL l fun cs => K (.tup cs)
def seqV {β : Type} : List AV → (List AV → β) → β
  | [], K => K []
  | a :: l, K => fv a fun a' => seqV l fun l' => K (a' :: l')
def ofConst : Value → AV
  | .int k n => .int k n
  | .bool b => .bool b
  | .string s => match Nat.ble s.data.toList.length MX with
    | true => seqB s.data.toList .str
    | false => .opq
  | .slice none 0 0 => .niln
  | .pointer none => .nilp
  | .nilIface => .ifc true
  | _ => .opq
def AS.rd (s : AS) : Operand → AV
  | .tmp t => (s.env t).v
  | .const v => ofConst v
  | .func f => .fn f []
  | .global _ => .opq
def fixT : TI → AV → AV
  | .sl E, .niln => .nils E
  | _, v => v
def TI.size : TI → Nat
  | .st _ z => z.length
  | .other => 0
  | _ => 1
def cellsOf : AV → List AV
  | .st cs => cs
  | .opq => []
  | .tup _ => []
  | v => [v]
def intB (a b : Int) : Bool := decide (a = b)
def inK : IntKind → Int → Prop
  | .i64, n => -9223372036854775808 ≤ n ∧ n ≤ 9223372036854775807
  | .u8, n => 0 ≤ n ∧ n ≤ 255
  | .u64, n => 0 ≤ n ∧ n ≤ 18446744073709551615
  | _, _ => False
def ltS (a b : Bs) : Bool := Go.Op.bytesLess a b
abbrev QR := Option (Option Prop × AV)
def qInt (k : IntKind) (op : BinOp) (x y : Int) : QR :=
  match op with
  | .add => some (some (inK k (x + y)), .int k (x + y))
  | .sub => some (some (inK k (x - y)), .int k (x - y))
  | .mul => some (some (inK k (x * y)), .int k (x * y))
  | .quo => match k with
    | .i64 => some (some (0 ≤ x ∧ x ≤ 9223372036854775807 ∧ 0 < y), .int k (x / y))
    | _ => none
  | .rem => some (some (0 ≤ x ∧ 0 < y), .int k (x % y))
  | .xor => match k with
    | .i64 => some (some ((0 ≤ x ∧ x ≤ 9223372036854775807) ∧ (0 ≤ y ∧ y ≤ 9223372036854775807)), .int k (x.toNat ^^^ y.toNat : Nat))
    | _ => none
  | .eql => some (none, .bool (decide (x = y)))
  | .neq => some (none, .bool (!decide (x = y)))
  | .lss => some (none, .bool (decide (x < y)))
  | .leq => some (none, .bool (decide (x ≤ y)))
  | .gtr => some (none, .bool (decide (y < x)))
  | .geq => some (none, .bool (decide (y ≤ x)))
  | _ => none
def qStr (op : BinOp) (x y : Bs) : QR :=
  match op with
  | .add => some (some (x.length + y.length ≤ 1099511627776), .str (x ++ y))
  | .eql => some (none, .bool (decide (x = y)))
  | .neq => some (none, .bool (!decide (x = y)))
  | .lss => some (none, .bool (ltS x y))
  | .leq => some (none, .bool (!ltS y x))
  | .gtr => some (none, .bool (ltS y x))
  | .geq => some (none, .bool (!ltS x y))
  | _ => none
def qBin (t : TI) (op : BinOp) (x y : AV) : QR :=
  match x, y with
  | .int .i64 x, .int .i64 y => qInt .i64 op x y
  | .int .u8 x, .int .u8 y => qInt .u8 op x y
  | .int .u64 x, .int .u64 y => match op, intB y 1 with
    | .shr, true => some (some (0 ≤ x), .int .u64 (x / 2))
    | _, _ => qInt .u64 op x y
  | .str x, .str y => qStr op x y
  | .bool x, .bool y => match t, op with
    | .bool, .eql => some (none, .bool (x == y))
    | .bool, .neq => some (none, .bool (!(x == y)))
    | _, _ => none
  | _, _ => none
def qIfc (t : TI) (op : BinOp) (x : AV) : Operand → QR
  | .const .nilIface => match t, x, op with
    | .ifc, .ifc b, .eql => some (none, .bool b)
    | .ifc, .ifc b, .neq => some (none, .bool (!b))
    | _, _, _ => none
  | _ => none
def rdSl (L : Nat → Option LC) : AV → Option ((E : El) × List (ElT E))
  | .ps E l => some ⟨E, l⟩
  | .nils E => some ⟨E, []⟩
  | .ls id => match L id with
    | some (.arr E l) => some ⟨E, l⟩
    | some (.frz E l) => some ⟨E, l⟩
    | some (.tree E l) => some ⟨E, l⟩
    | _ => none
  | _ => none
def cutC (cs : List AV) (off n : Nat) : List AV := (cs.drop off).take n
def loadR (t : TI) (cs : List AV) (off : Nat) : QR :=
  match t with
  | .st _ z => seqV (cutC cs off z.length) fun l => match Nat.beq l.length z.length with
    | true => some (none, .st l)
    | false => none
  | .other => none
  | _ => match cs.drop off with
    | v :: _ => some (none, v)
    | [] => none
def qLoad (t : TI) (L : Nat → Option LC) : AV → QR
  | .lp id off => match L id with
    | some (.box cs) => loadR t cs off
    | _ => none
  | .ep E l i off => loadR t (enc E (l.getD i.toNat (elDef E))) off
  | .ap E id i off => match L id with
    | some (.arr E' l) => (match decide (E = E') with | true => loadR t (enc E' (l.getD i.toNat (elDef E'))) off | false => none)
    | some (.frz E' l) => (match decide (E = E') with | true => loadR t (enc E' (l.getD i.toNat (elDef E'))) off | false => none)
    | some (.tree E' l) => (match decide (E = E') with | true => loadR t (enc E' (l.getD i.toNat (elDef E'))) off | false => none)
    | _ => none
  | _ => none
def qField (fs : List (Nat × Nat)) (f : Nat) : AV → QR
  | .lp id off => match fs.drop f with
    | (o, _) :: _ => some (none, .lp id (off + o))
    | [] => none
  | .ep E l i off => match fs.drop f with
    | (o, _) :: _ => some (none, .ep E l i (off + o))
    | [] => none
  | .ap E id i off => match fs.drop f with
    | (o, _) :: _ => some (none, .ap E id i (off + o))
    | [] => none
  | _ => none
def spliceC : List AV → Nat → List AV → List AV
  | cs, _, [] => cs
  | cs, off, v :: r => spliceC (cs.set off v) (off + 1) r
def qBuild (T : Tab) (fs : List (Nat × Nat)) (s : AS) : List AV → List (Nat × Operand) → Option (List AV)
  | cs, [] => some cs
  | cs, (i, x) :: r => match fs.drop i with
    | (o, ty) :: _ => seqV (cellsOf (fixT (T ty) (s.rd x))) fun vs =>
      match Nat.beq vs.length (T ty).size, Nat.ble (o + vs.length) cs.length, Nat.ble 1 vs.length with
      | true, true, true => seqL (spliceC cs o vs) fun cs' => qBuild T fs s cs' r
      | _, _, _ => none
    | [] => none
def optI (s : AS) (d : Int) : Option Operand → Option Int
  | none => some d
  | some x => match s.rd x with
    | .int _ n => some n
    | _ => none
def qSlice (t : TI) (s : AS) (x : AV) (lo hi : Option Operand) : QR :=
  match t, x with
  | .str, .str b => match optI s 0 lo, optI s b.length hi with
    | some l, some h => some (some (0 ≤ l ∧ l ≤ h ∧ h ≤ b.length), .str ((b.take h.toNat).drop l.toNat))
    | _, _ => none
  | .sl E', .ps E b => match decide (E' = E), optI s 0 lo, optI s b.length hi with
    | true, some l, some h => some (some (0 ≤ l ∧ l ≤ h ∧ h ≤ b.length), .ps E ((b.take h.toNat).drop l.toNat))
    | _, _, _ => none
  | _, _ => none
def isTrue : Operand → Bool
  | .const (.bool true) => true
  | _ => false
def isFalse : Operand → Bool
  | .const (.bool false) => true
  | _ => false
def qLen (L : Nat → Option LC) : TI → AV → QR
  | .str, .str b => some (none, .int .i64 b.length)
  | .sl _, v => match rdSl L v with
    | some ⟨_, l⟩ => some (none, .int .i64 l.length)
    | none => none
  | _, _ => none
def qConv (L : Nat → Option LC) : TI → TI → AV → QR
  | .int _, .int .i64, .int _ n => some (some (inK .i64 n), .int .i64 n)
  | .int _, .int .u8, .int _ n => some (some (inK .u8 n), .int .u8 n)
  | .int _, .int .u64, .int _ n => some (some (inK .u64 n), .int .u64 n)
  | .sl .u8, .str, v => match rdSl L v with
    | some ⟨.u8, l⟩ => some (none, .str ((l : List Int).map fun n => UInt8.ofNat n.toNat))
    | _ => none
  | _, _, _ => none
def qIdx (T : Tab) (s : AS) (t : Nat) (n : Int) : AV → QR
  | .ps E l => match T t with
    | .sl E' => match decide (E' = E) with
      | true => some (some (0 ≤ n ∧ n < l.length), .ep E l n 0)
      | false => none
    | _ => none
  | .ls id => match s.locs id, T t with
    | some (.arr E l), .sl E' => match decide (E' = E) with
      | true => some (some (0 ≤ n ∧ n < l.length), .ap E id n 0)
      | false => none
    | some (.frz E l), .sl E' => match decide (E' = E) with
      | true => some (some (0 ≤ n ∧ n < l.length), .ep E l n 0)
      | false => none
    | some (.tree E l), .sl E' => match decide (E' = E) with
      | true => some (some (0 ≤ n ∧ n < l.length), .ap E id n 0)
      | false => none
    | _, _ => none
  | _ => none
def qval (T : Tab) (s : AS) (o : Oper) : QR :=
  match o.op with
  | .move x => some (none, fixT (T o.type) (s.rd x))
  | .assign x => some (none, fixT (T o.type) (s.rd x))
  | .pick c a b => match s.rd c, s.rd a, s.rd b with
    | .bool c', .bool a', .bool b' =>
      match isTrue a with
      | true => some (none, .bool (c' || b'))
      | false => match isFalse b with
        | true => some (none, .bool (c' && a'))
        | false => some (none, .bool (cond c' a' b'))
    | _, _, _ => none
  | .nilCheck x => match s.rd x with
    | .lp id off => some (none, .lp id off)
    | .ap E id i off => some (none, .ap E id i off)
    | .ep E l i off => some (none, .ep E l i off)
    | _ => none
  | .binOp op t x y _ => match qBin (T t) op (s.rd x) (s.rd y) with
    | some r => some r
    | none => qIfc (T t) op (s.rd x) y
  | .unOp .not _ x => match s.rd x with
    | .bool b => some (none, .bool (!b))
    | _ => none
  | .unOp .neg _ x => match s.rd x with
    | .int .i64 n => some (some (inK .i64 n), .int .i64 (if n = -9223372036854775808 then n else -n))
    | _ => none
  | .convert src dst x => qConv s.locs (T src) (T dst) (s.rd x)
  | .makeFunc fn first caps => match fn, first.toList with
    | .func f, [] => some (none, .fn f (caps.toList.map s.rd))
    | _, _ => none
  | .slice t x lo hi none => qSlice (T t) s (s.rd x) lo hi
  | .fieldAddr t x f => match T t with
    | .st fs _ => qField fs f (s.rd x)
    | _ => none
  | .field t x f => match T t, s.rd x with
    | .st fs _, .st cs => match fs.drop f with
      | (off, ty) :: _ => loadR (T ty) cs off
      | [] => none
    | _, _ => none
  | .indexAddr t x i => match s.rd i with
    | .int _ n => qIdx T s t n (s.rd x)
    | _ => none
  | .index t x i => match T t, s.rd i, s.rd x with
    | .str, .int _ n, .str b => some (some (0 ≤ n ∧ n < b.length), .int .u8 (b.getD n.toNat 0).toNat)
    | _, _, _ => none
  | .extract t i => match s.rd t with
    | .tup l => match l.drop i with
      | v :: _ => some (none, v)
      | [] => none
    | _ => none
  | .load t x => qLoad (T t) s.locs (s.rd x)
  | .build t parts => match T t with
    | .st fs z => seqL z fun z' => match qBuild T fs s z' parts.toList with
      | some cs => some (none, .st cs)
      | none => none
    | _ => none
  | .call c => match c.callee with
    | .builtin .len => match c.args.toList, c.argTypes.toList with
      | [x], [t] => qLen s.locs (T t) (s.rd x)
      | _, _ => none
    | .builtin .cap => match c.args.toList, c.argTypes.toList with
      | [x], [t] => match T t, s.rd x with
        | .sl _, .nils _ => some (none, .int .i64 0)
        | _, _ => none
      | _, _ => none
    | .builtin .max => match c.args.toList with
      | [x, y] => match s.rd x, s.rd y with
        | .int .i64 a, .int .i64 b => some (none, .int .i64 (if b > a then b else a))
        | _, _ => none
      | _ => none
    | .builtin .min => match c.args.toList with
      | [x, y] => match s.rd x, s.rd y with
        | .int .i64 a, .int .i64 b => some (none, .int .i64 (if b < a then b else a))
        | _, _ => none
      | _ => none
    | _ => none
  | .lookup t m k false => match T t, s.rd m, s.rd k with
    | .mp, .ls id, .str b => match s.locs id with
      | some (.mp l) => some (none, .int .i64 ((mget l b).getD 0))
      | _ => none
    | _, _, _ => none
  | _ => none
end Go.Rs
end
section
namespace Go.Rs
abbrev Locs := Nat → Option LC
def castE : (E E' : El) → List (ElT E') → Option (List (ElT E))
  | .u8, .u8, l => some l
  | .i64, .i64, l => some l
  | .bool, .bool, l => some l
  | .str, .str, l => some l
  | .strs, .strs, l => some l
  | .node, .node, l => some l
  | .shape, .shape, l => some l
  | .item, .item, l => some l
  | .opn, .opn, l => some l
  | .chg, .chg, l => some l
  | .nws, .nws, l => some l
  | .flt, .flt, l => some l
  | .req, .req, l => some l
  | .rsp, .rsp, l => some l
  | _, _, _ => none
def persist : Locs → AV → Option (AV × Locs)
  | L, .ls id => match L id with
    | some (.arr E l) => some (.ps E l, upd L id (some (.frz E l)))
    | some (.frz E l) => some (.ps E l, L)
    | some (.tree E l) => some (.ps E l, upd L id (some (.frz E l)))
    | some (.raw E l) => some (.ps E l, upd L id (some (.frz E l)))
    | _ => none
  | L, .nils E => some (.ps E [], L)
  | L, .int k n => some (.int k n, L)
  | L, .bool b => some (.bool b, L)
  | L, .str b => some (.str b, L)
  | L, .ps E l => some (.ps E l, L)
  | L, .nilp => some (.nilp, L)
  | L, .niln => some (.niln, L)
  | L, .ifc b => some (.ifc b, L)
  | _, _ => none
def persistL : Locs → List AV → Option (List AV × Locs)
  | L, [] => some ([], L)
  | L, v :: r => match persist L v with
    | some (v', L') => match persistL L' r with
      | some (r', L'') => some (v' :: r', L'')
      | none => none
    | none => none
def persistS (L : Locs) : AV → Option (AV × Locs)
  | .st cs => match persistL L cs with
    | some (cs', L') => some (.st cs', L')
    | none => none
  | v => persist L v
def give : Locs → AV → Option (AV × Locs)
  | L, .ls id => match L id with
    | some (.arr E l) => some (.own E l, upd L id none)
    | some (.frz E l) => some (.ps E l, L)
    | some (.tree E l) => some (.dp E l, upd L id none)
    | some (.raw E l) => some (.wr E l, upd L id none)
    | _ => none
  | L, .nils E => some (.own E [], L)
  | L, .int k n => some (.int k n, L)
  | L, .bool b => some (.bool b, L)
  | L, .str b => some (.str b, L)
  | L, .ps E l => some (.ps E l, L)
  | L, .nilp => some (.nilp, L)
  | L, .niln => some (.niln, L)
  | L, .ifc b => some (.ifc b, L)
  | _, _ => none
def giveL : Locs → List AV → Option (List AV × Locs)
  | L, [] => some ([], L)
  | L, v :: r => match give L v with
    | some (v', L') => match giveL L' r with
      | some (r', L'') => some (v' :: r', L'')
      | none => none
    | none => none
def giveS (L : Locs) : AV → Option (AV × Locs)
  | .st cs => match giveL L cs with
    | some (cs', L') => some (.st cs', L')
    | none => none
  | v => give L v
inductive Md where
  | ps | ow | ln
def hasOwn : List AV → Bool
  | [] => false
  | .own _ _ :: _ => true
  | .dp _ _ :: _ => true
  | .wr _ _ :: _ => true
  | _ :: r => hasOwn r
def lendV : AV → AV
  | .own E l => .tup [.own E l]
  | .dp E l => .tup [.dp E l]
  | .wr E l => .tup [.wr E l]
  | .st cs => match hasOwn cs with
    | true => .tup [.st cs]
    | false => .st cs
  | v => v
def capE : List AV → Option ((E : El) × ElT E)
  | [.int .i64 n] => some ⟨.i64, n⟩
  | [.ps .str l] => some ⟨.strs, l⟩
  | [.int .i64 a, .int .i64 b, .str c, .ps .str d, .ps .node e] => some ⟨.node, ⟨a, b, c, d, e⟩⟩
  | _ => none
def pinC : Locs → AV → Option (AV × Locs)
  | L, .lp id 0 => match L id with
    | some (.box cs) => match capE cs with
      | some ⟨E, x⟩ => some (.ep E [x] 0 0, upd L id none)
      | none => none
    | _ => none
  | L, .ep E l i off => some (.ep E l i off, L)
  | _, _ => none
def pinL : Locs → List AV → Option (List AV × Locs)
  | L, [] => some ([], L)
  | L, v :: r => match pinC L v with
    | some (v', L') => match pinL L' r with
      | some (r', L'') => some (v' :: r', L'')
      | none => none
    | none => none
def arg (own : Md) (L : Locs) : AV → Option (AV × Locs)
  | .lp id 0 => match L id with
    | some (.box cs) => match giveL L cs with
      | some (cs', L') => some (.ref cs', upd L' id none)
      | none => none
    | some (.bld b) => some (.rb b, upd L id none)
    | _ => none
  | .fn f [] => some (.fn f [], L)
  | .fn f (c :: cs) => match pinL L (c :: cs) with
    | some (cs', L') => some (.fn f cs', L')
    | none => none
  | .ep E l i off => some (.ep E l i off, L)
  | .lp _ _ => none
  | v => match own with
    | .ow => giveS L v
    | .ps => persistS L v
    | .ln => match giveS L v with
      | some (v', L') => some (lendV v', L')
      | none => none
def argL (own : Md) : Locs → List AV → Option (List AV × Locs)
  | L, [] => some ([], L)
  | L, v :: r => match arg own L v with
    | some (v', L') => match argL own L' r with
      | some (r', L'') => some (v' :: r', L'')
      | none => none
    | none => none
def take : Locs → (Nat → Bool) → Nat → AV → Option (AV × Locs × (Nat → Bool) × Nat)
  | L, U, n, .own E l => match U n with
    | false => some (.ls n, upd L n (some (.arr E l)), upd U n true, n + 1)
    | true => none
  | L, U, n, .dp E l => match U n with
    | false => some (.ls n, upd L n (some (.tree E l)), upd U n true, n + 1)
    | true => none
  | L, U, n, .wr E l => match U n with
    | false => some (.ls n, upd L n (some (.raw E l)), upd U n true, n + 1)
    | true => none
  | L, U, n, .int k m => some (.int k m, L, U, n)
  | L, U, n, .bool b => some (.bool b, L, U, n)
  | L, U, n, .str b => some (.str b, L, U, n)
  | L, U, n, .ps E l => some (.ps E l, L, U, n)
  | L, U, n, .nilp => some (.nilp, L, U, n)
  | L, U, n, .niln => some (.niln, L, U, n)
  | L, U, n, .ifc b => some (.ifc b, L, U, n)
  | L, U, n, .opq => some (.opq, L, U, n)
  | L, U, n, .ep E l i off => some (.ep E l i off, L, U, n)
  | _, _, _, _ => none
def takeL : Locs → (Nat → Bool) → Nat → List AV → Option (List AV × Locs × (Nat → Bool) × Nat)
  | L, U, n, [] => some ([], L, U, n)
  | L, U, n, v :: r => match take L U n v with
    | some (v', L', U', n') => match takeL L' U' n' r with
      | some (r', L'', U'', n'') => some (v' :: r', L'', U'', n'')
      | none => none
    | none => none
def takeS (L : Locs) (U : Nat → Bool) (n : Nat) : AV → Option (AV × Locs × (Nat → Bool) × Nat)
  | .st cs => match takeL L U n cs with
    | some (cs', L', U', n') => some (.st cs', L', U', n')
    | none => none
  | v => take L U n v
def takeT : Locs → (Nat → Bool) → Nat → List AV → Option (List AV × Locs × (Nat → Bool) × Nat)
  | L, U, n, [] => some ([], L, U, n)
  | L, U, n, v :: r => match takeS L U n v with
    | some (v', L', U', n') => match takeT L' U' n' r with
      | some (r', L'', U'', n'') => some (v' :: r', L'', U'', n'')
      | none => none
    | none => none
def takeR (L : Locs) (U : Nat → Bool) (n : Nat) : AV → Option (AV × Locs × (Nat → Bool) × Nat)
  | .tup cs => match takeT L U n cs with
    | some (cs', L', U', n') => some (.tup cs', L', U', n')
    | none => none
  | .ref cs => match takeL L U (n + 1) cs with
    | some (cs', L', U', n') => match U' n with
      | false => some (.lp n 0, upd L' n (some (.box cs')), upd U' n true, n')
      | true => none
    | none => none
  | v => takeS L U n v
def tgtC : List AV → List AV → List AV
  | c :: cs, .own _ _ :: vs => c :: tgtC cs vs
  | c :: cs, .dp _ _ :: vs => c :: tgtC cs vs
  | c :: cs, .wr _ _ :: vs => c :: tgtC cs vs
  | _ :: cs, _ :: vs => tgtC cs vs
  | _, _ => []
def tgtV : AV → AV → List AV
  | v, .own _ _ => [v]
  | v, .dp _ _ => [v]
  | v, .wr _ _ => [v]
  | .st cs, .st vs => tgtC cs vs
  | _, _ => []
def tgt : List AV → List AV → List AV
  | v :: as, .ref _ :: bs => v :: tgt as bs
  | v :: as, .rb _ :: bs => v :: tgt as bs
  | v :: as, .tup [u] :: bs => tgtV v u ++ tgt as bs
  | _ :: as, _ :: bs => tgt as bs
  | _, _ => []
def backL : Locs → (Nat → Bool) → Nat → List AV → List AV → Option (Locs × (Nat → Bool))
  | L, U, _, [], [] => some (L, U)
  | L, U, n, .lp id 0 :: as, .ref cs :: rs => match takeL L U n cs with
    | some (cs', L', U', n') => backL (upd L' id (some (.box cs'))) U' n' as rs
    | none => none
  | L, U, n, .lp id 0 :: as, .rb b :: rs => backL (upd L id (some (.bld b))) U n as rs
  | L, U, n, .ls id :: as, .own E l :: rs => backL (upd L id (some (.arr E l))) U n as rs
  | L, U, n, .ls id :: as, .dp E l :: rs => backL (upd L id (some (.tree E l))) U n as rs
  | L, U, n, .ls id :: as, .wr E l :: rs => backL (upd L id (some (.raw E l))) U n as rs
  | L, U, n, .ls id :: as, .ps E l :: rs => backL (upd L id (some (.frz E l))) U n as rs
  | L, U, n, .nils _ :: as, .own _ _ :: rs => backL L U n as rs
  | L, U, n, .nils _ :: as, .ps _ _ :: rs => backL L U n as rs
  | _, _, _, _, _ => none
inductive Ctr where
  | pure (f : List AV → QR)
  | gen (own : Md) (c : List AV → (AV → List AV → Prop) → Prop)
abbrev LR := Option (Option Prop × AV × Locs × (Nat → Bool))
def fresh (s : AS) (d : Nat) (k : LR) : LR := match s.used d, s.locs d with
  | false, none => k
  | _, _ => none
def flatE : El → Bool
  | .u8 | .i64 | .bool | .str => true
  | _ => false
def deepE : El → Bool
  | .u8 | .i64 | .bool | .str | .strs | .shape => false
  | _ => true
def DF : Nat := 999999999
def isD (s : AS) : Bool := s.used DF
def absorb : Locs → AV → Option (AV × Locs)
  | L, .ls id => match L id with
    | some (.arr E l) => match flatE E with
      | true => some (.ps E l, upd L id none)
      | false => none
    | some (.tree E l) => some (.ps E l, upd L id none)
    | _ => none
  | L, .nils E => some (.ps E [], L)
  | L, .int k n => some (.int k n, L)
  | L, .bool b => some (.bool b, L)
  | L, .str b => some (.str b, L)
  | _, _ => none
def absorbL : Locs → List AV → Option (List AV × Locs)
  | L, [] => some ([], L)
  | L, v :: r => match absorb L v with
    | some (v', L') => match absorbL L' r with
      | some (r', L'') => some (v' :: r', L'')
      | none => none
    | none => none
def absorbS (L : Locs) : AV → Option (AV × Locs)
  | .st cs => match absorbL L cs with
    | some (cs', L') => some (.st cs', L')
    | none => none
  | v => absorb L v
def partsT (s : AS) : Nat → Locs → List (Nat × Operand) → (E : El) → Option (List (ElT E) × Locs)
  | _, L, [], _ => some ([], L)
  | k, L, (i, x) :: r, E => match Nat.beq i k with
    | true => match absorbS L (s.rd x) with
      | some (v, L') => seqV (cellsOf v) fun cs => match dec E cs with
        | some y => match partsT s (k + 1) L' r E with
          | some (ys, L'') => some (y :: ys, L'')
          | none => none
        | none => none
      | none => none
    | false => none
def partsOf (s : AS) : Nat → Locs → List (Nat × Operand) → (E : El) → Option (List (ElT E) × Locs)
  | _, L, [], _ => some ([], L)
  | k, L, (i, x) :: r, E => match Nat.beq i k with
    | true => match persistS L (s.rd x) with
      | some (v, L') => seqV (cellsOf v) fun cs => match dec E cs with
        | some y => match partsOf s (k + 1) L' r E with
          | some (ys, L'') => some (y :: ys, L'')
          | none => none
        | none => none
      | none => none
    | false => none
def lBox (s : AS) (d : Nat) (v : AV) : LR :=
  seqV (cellsOf v) fun cs => match cs with
    | [] => none
    | c :: r => fresh s d (some (none, .lp d 0, upd s.locs d (some (.box (c :: r))), upd s.used d true))
def zeroOf : TI → List AV
  | .int k => [.int k 0]
  | .bool => [.bool false]
  | .str => [.str []]
  | .sl E => [.nils E]
  | .st _ z => z
  | _ => []
def isB (t : Nat) : List AV → Bool
  | [.nilp, .nils .u8] => Nat.beq t BT
  | _ => false
def zLC (t : Nat) (cs : List AV) : LC := match isB t cs with | true => .bld [] | false => .box cs
def lAlloc (s : AS) (d n : Nat) (t : TI) : LR :=
  seqV (zeroOf t) fun cs => match isB n cs with
    | true => fresh s d (some (none, .lp d 0, upd s.locs d (some (.bld [])), upd s.used d true))
    | false => match cs with
      | [] => none
      | c :: r => fresh s d (some (none, .lp d 0, upd s.locs d (some (.box (c :: r))), upd s.used d true))
def lBuildSlice0 (s : AS) (d : Nat) (t : TI) (n : Nat) (parts : List (Nat × Operand)) : LR :=
  match t with
  | .sl E => match partsOf s 0 s.locs parts E with
    | some (l, L') => match Nat.beq l.length n, Nat.ble n 1000 with
      | true, true => fresh s d (some (none, .ls d, upd L' d (some (.arr E l)), upd s.used d true))
      | _, _ => none
    | none => none
  | _ => none
def isCst : Operand → Bool
  | .const _ => true
  | _ => false
def allC : List (Nat × Operand) → Bool
  | [] => true
  | (_, x) :: r => isCst x && allC r
def lBuildSlice (s : AS) (d : Nat) (t : TI) (n : Nat) (parts : List (Nat × Operand)) : LR :=
  match isD s, t with
  | true, .sl E => match deepE E && !allC parts with
    | true => match partsT s 0 s.locs parts E with
      | some (l, L') => match Nat.beq l.length n, Nat.ble n 1000 with
        | true, true => fresh s d (some (none, .ls d, upd L' d (some (.tree E l)), upd s.used d true))
        | _, _ => none
      | none => none
    | false => lBuildSlice0 s d t n parts
  | _, _ => lBuildSlice0 s d t n parts
def lStoreT (s : AS) (t : TI) (E : El) (id : Nat) (i : Int) (off : Nat) (v : AV) : LR :=
  match absorbS s.locs v with
  | some (v, L') => match L' id with
    | some (.tree E' l) => match decide (E' = E) with
      | true => seqV (cellsOf v) fun vs => match Nat.beq vs.length t.size, Nat.ble (off + vs.length) (esz E'), Nat.ble 1 vs.length with
        | true, true, true => seqV (spliceC (enc E' (l.getD i.toNat (elDef E'))) off vs) fun cs => match dec E' cs with
          | some y => some (none, .opq, upd L' id (some (.tree E' (l.set i.toNat y))), s.used)
          | none => none
        | _, _, _ => none
      | false => none
    | _ => none
  | none => none
def isTree (L : Locs) (id : Nat) : Bool := match L id with
  | some (.tree _ _) => true
  | _ => false
def lStore (s : AS) (t : TI) (x v : AV) : LR :=
  match x with
  | .lp id off => match s.locs id with
    | some (.box cs) => seqV (cellsOf v) fun vs => match Nat.beq vs.length t.size, Nat.ble (off + vs.length) cs.length, Nat.ble 1 vs.length with
      | true, true, true => seqV (spliceC cs off vs) fun cs' => some (none, .opq, upd s.locs id (some (.box cs')), s.used)
      | _, _, _ => none
    | _ => none
  | .ap E id i off => match isTree s.locs id with
    | true => lStoreT s t E id i off v
    | false => match persistS s.locs v with
      | some (v, L') => match L' id with
        | some (.arr E' l) => match decide (E' = E) with
          | true => seqV (cellsOf v) fun vs => match Nat.beq vs.length t.size, Nat.ble (off + vs.length) (esz E'), Nat.ble 1 vs.length with
            | true, true, true => seqV (spliceC (enc E' (l.getD i.toNat (elDef E'))) off vs) fun cs => match dec E' cs with
              | some y => some (none, .opq, upd L' id (some (.arr E' (l.set i.toNat y))), s.used)
              | none => none
            | _, _, _ => none
          | false => none
        | _ => none
      | none => none
  | _ => none
def lMake (s : AS) (d : Nat) (t : TI) (x y : AV) : LR :=
  match t, x, y with
  | .sl E, .int _ n, .int _ m => match isD s, deepE E with
    | true, true => fresh s d (some (some (0 ≤ n ∧ n ≤ m ∧ m ≤ 1073741824), .ls d, upd s.locs d (some (.tree E (List.replicate n.toNat (elDef E)))), upd s.used d true))
    | _, _ => fresh s d (some (some (0 ≤ n ∧ n ≤ m ∧ m ≤ 1073741824), .ls d, upd s.locs d (some (.arr E (List.replicate n.toNat (elDef E)))), upd s.used d true))
  | _, _, _ => none
def lSlice (s : AS) (t : TI) (x : AV) (lo hi : Option Operand) : LR :=
  match persist s.locs x with
  | some (v, L') => match qSlice t s v lo hi with
    | some (O, r) => some (O, r, L', s.used)
    | none => none
  | none => none
def lSliceD (s : AS) (d : Nat) (t : TI) (x : AV) (lo hi : Option Operand) : LR :=
  match isD s, t, x, lo with
  | true, .sl E', .ls id, none => match s.locs id, optI s 0 hi with
    | some (.arr E l), some h => match decide (E' = E), hi with
      | true, some _ => fresh s d (some (some (0 ≤ h ∧ h ≤ l.length), .ls d, upd (upd s.locs id none) d (some (.arr E (l.take h.toNat))), upd s.used d true))
      | _, _ => lSlice s t x lo hi
    | _, _ => lSlice s t x lo hi
  | true, .sl _, .nils E, none => match optI s 0 hi with
    | some h => some (some (0 ≤ h ∧ h ≤ 0), .nils E, s.locs, s.used)
    | none => none
  | _, _, _, _ => lSlice s t x lo hi
def lAppendT (s : AS) (d : Nat) (tx : TI) (x : AV) (id2 : Nat) : LR :=
  match tx, s.locs id2 with
  | .sl E, some (.tree E' m) => match castE E E' m with
    | some m' => match x with
      | .nils E0 => match decide (E0 = E) with
        | true => fresh s d (some (some (m'.length ≤ 1073741824), .ls d, upd (upd s.locs id2 none) d (some (.tree E m')), upd s.used d true))
        | false => none
      | .ls id => match (upd s.locs id2 none) id with
        | some (.tree E0 l) => match castE E E0 l with
          | some l' => fresh s d (some (some (l'.length + m'.length ≤ 1073741824), .ls d, upd (upd (upd s.locs id2 none) id none) d (some (.tree E (l' ++ m'))), upd s.used d true))
          | none => none
        | _ => none
      | _ => none
    | none => none
  | _, _ => none
def lAppend0 (s : AS) (d : Nat) (tx : TI) (x y : AV) : LR :=
  match tx, rdSl s.locs y with
  | .sl E, some ⟨E', m⟩ => match castE E E' m with
    | some m' => match x with
      | .nils E0 => match decide (E0 = E) with
        | true => fresh s d (some (some (m'.length ≤ 1073741824), .ls d, upd s.locs d (some (.arr E m')), upd s.used d true))
        | false => none
      | .ls id => match s.locs id with
        | some (.arr E0 l) => match castE E E0 l with
          | some l' => fresh s d (some (some (l'.length + m'.length ≤ 1073741824), .ls d, upd (upd s.locs id none) d (some (.arr E (l' ++ m'))), upd s.used d true))
          | none => none
        | _ => none
      | _ => none
    | none => none
  | _, _ => none
def lAppend (s : AS) (d : Nat) (tx : TI) (x y : AV) : LR :=
  match y with
  | .ls id2 => match isTree s.locs id2 with
    | true => lAppendT s d tx x id2
    | false => lAppend0 s d tx x y
  | _ => lAppend0 s d tx x y
def lCopy (s : AS) (tx : TI) (x y : AV) : LR :=
  match tx, x, y with
  | .sl E, .ls id, .ps E' m => match castE E E' m with
    | some m' => match s.locs id with
      | some (.arr E0 l) => match castE E E0 l with
        | some l' => some (none, .int .i64 (Nat.min m'.length l'.length : Nat), upd s.locs id (some (.arr E (m'.take l'.length ++ l'.drop m'.length))), s.used)
        | none => none
      | _ => none
    | none => none
  | _, _, _ => none
def lMakeMap (s : AS) (d : Nat) (t : TI) : LR :=
  match t with
  | .mp => fresh s d (some (none, .ls d, upd s.locs d (some (.mp [])), upd s.used d true))
  | _ => none
def lMapSet (s : AS) (t : TI) (m k v : AV) : LR :=
  match t, m, k, v with
  | .mp, .ls id, .str b, .int .i64 z => match s.locs id with
    | some (.mp l) => some (some (l.length < 1073741824 ∧ inK .i64 z), .opq, upd s.locs id (some (.mp ((b, z) :: l))), s.used)
    | _ => none
  | _, _, _, _ => none
def lval (T : Tab) (s : AS) (o : Oper) : LR :=
  match o.op, o.dst with
  | .box t x, some d => lBox s d (fixT (T t) (s.rd x))
  | .alloc t, some d => lAlloc s d t (T t)
  | .buildSlice t n parts, some d => lBuildSlice s d (T t) n parts.toList
  | .store t x y, none => lStore s (T t) (s.rd x) (fixT (T t) (s.rd y))
  | .makeSlice t x y, some d => lMake s d (T t) (s.rd x) (s.rd y)
  | .slice t x lo hi none, some d => lSliceD s d (T t) (s.rd x) lo hi
  | .call c, some d => match c.callee, c.args.toList, c.argTypes.toList with
    | .builtin .append, [x, y], [tx, ty] => match decide (tx = ty) with
      | true => lAppend s d (T tx) (s.rd x) (s.rd y)
      | false => none
    | .builtin .copy, [x, y], tx :: _ => lCopy s (T tx) (s.rd x) (s.rd y)
    | _, _, _ => none
  | .makeMap t none, some d => lMakeMap s d (T t)
  | .mapUpdate t m k v, none => lMapSet s (T t) (s.rd m) (s.rd k) (s.rd v)
  | _, _ => none
end Go.Rs
end
section
namespace Go.Rs
inductive DI where
  | q (i : Nat)
  | l (i : Nat) (re : List Nat)
  | a (i : Nat)
structure Ctx where
  T : Tab
  C : Nat → Option Ctr
  N : Nat
  O : Nat → List DI
def gHolds (s : AS) : List (Nat × Bool) → Prop
  | [] => True
  | (t, p) :: r => (match (s.env t).v with | .bool b => b = p | _ => False) ∧ gHolds s r
def seqG {β : Type} : List (Nat × Bool) → (List (Nat × Bool) → β) → β
  | [], K => K []
  | (a, b) :: l, K => seqG l fun l' => K ((a, b) :: l')
def guardsOf (ops : List Oper) (s : AS) (o : Oper) : Option (List (Nat × Bool)) :=
  match o.guard with
  | none => some []
  | some (j, p) => match ops.drop j with
    | o' :: _ => match o'.dst with
      | some t => match (s.env t).v with
        | .bool _ => seqG (s.env t).g fun g => some ((t, p) :: g)
        | _ => none
      | none => none
    | [] => none
def gImp (s : AS) : List (Nat × Bool) → Prop → Prop
  | [], O => O
  | (t, p) :: r, O => match (s.env t).v with
    | .bool b => b = p → gImp s r O
    | _ => True
structure Gd (b p : Bool) (K : Prop) : Prop where
  k : b = p → K
def gDo (s : AS) : List (Nat × Bool) → Prop → Prop
  | [], O => O
  | (t, p) :: r, O => match (s.env t).v with
    | .bool b => Gd b p (gDo s r O)
    | _ => True
def gNot (s : AS) : List (Nat × Bool) → Prop → Prop
  | [], _ => True
  | (t, p) :: r, K => match (s.env t).v with
    | .bool b => Gd b (!p) K ∧ Gd b p (gNot s r K)
    | _ => K
def dumV : TI → AV
  | .int k => .int k 0
  | .bool => .bool false
  | .str => .str []
  | .sl E => .nils E
  | .st _ z => .st z
  | _ => .opq
structure Obl (O K : Prop) : Prop where
  o : O
  k : K
structure OblG (O K : Prop) : Prop where
  o : O
  k : K
structure Bx (O : Prop) : Prop where
  o : O
structure Cnd (t : Bool) (A B : Prop) : Prop where
  y : t = true → A
  n : t = false → B
def ob (s : AS) (g : List (Nat × Bool)) (O : Option Prop) (K : Prop) : Prop :=
  match O with
  | none => K
  | some O => match g with
    | [] => Obl O K
    | _ => OblG (gImp s g (Bx O)) K
def memG (x : Nat × Bool) : List (Nat × Bool) → Bool
  | [] => false
  | y :: r => (Nat.beq x.1 y.1 && (x.2 == y.2)) || memG x r
def subG : List (Nat × Bool) → List (Nat × Bool) → Bool
  | [], _ => true
  | x :: r, l => memG x l && subG r l
def okOpnd (s : AS) (g : List (Nat × Bool)) : Operand → Bool
  | .tmp t => subG (s.env t).g g
  | _ => true
def okOpnds (s : AS) (g : List (Nat × Bool)) : List Operand → Bool
  | [] => true
  | x :: r => okOpnd s g x && okOpnds s g r
def okOps (s : AS) (g : List (Nat × Bool)) (o : Oper) : Bool :=
  match o.op with
  | .pick (.tmp c) a b => okOpnd s g (.tmp c) && okOpnd s ((c, true) :: g) a && okOpnd s ((c, false) :: g) b
  | op => okOpnds s g op.operands.toList
def setK (N : Nat) (s : AS) (d : Option Nat) (g : List (Nat × Bool)) (v : AV) (K : AS → Prop) : Prop :=
  fv v fun v => match d with
    | some d => match mentG d g, Nat.blt d N with
      | false, true => K (s.put d ⟨g, v⟩)
      | _, _ => False
    | none => K s
def setM (N : Nat) (s : AS) (d : Option Nat) (v : AV) (L : Locs) (U : Nat → Bool) (K : AS → Prop) : Prop :=
  fv v fun v => match d with
    | some d => match Nat.blt d N with
      | true => K ⟨putE s.env d ⟨[], v⟩, L, U⟩
      | false => False
    | none => K ⟨s.env, L, U⟩
def scal1 : AV → Bool
  | .int _ _ | .bool _ | .str _ => true
  | _ => false
def scal : AV → Bool
  | .tup l => l.all scal1
  | v => scal1 v
def noLs1 : AV → Bool
  | .ls _ => false
  | _ => true
def noLs : List AV → Bool
  | [] => true
  | .ls _ :: _ => false
  | .st cs :: r => cs.all noLs1 && noLs r
  | _ :: r => noLs r
def pf (F : List AV → QR) (args as : List AV) : QR := match F as with
  | some (O, v) => match scal v with
    | true => some (O, v)
    | false => match noLs args with
      | true => some (O, v)
      | false => none
  | none => none
def noLp : List AV → Bool
  | [] => true
  | .lp _ _ :: _ => false
  | .fn _ (_ :: _) :: _ => false
  | .ep _ _ _ _ :: _ => false
  | _ :: r => noLp r
theorem noLp_tail {v : AV} {r : List AV} (h : noLp (v :: r) = true) : noLp r = true := by
  cases v with
  | fn f caps =>
    cases caps with
    | nil => exact h
    | cons c cs => cases h
  | lp id off => cases h
  | ep E l i off => cases h
  | _ => exact h
def acall (E : Ctx) (s : AS) (dst : Option Nat) (f : Nat) (args : List AV) (K : AS → Prop) : Prop :=
  match E.C f with
  | some (.pure F) => match argL .ps s.locs args, noLp args with
    | some (as, _), true => match pf F args as with
      | some (O, v) => ob s [] O (setK E.N s dst [] v K)
      | none => False
    | _, _ => False
  | some (.gen own C) => match argL own s.locs args with
    | some (as, L) => C as fun r rs => match takeR L s.used (1000 * (dst.getD 0 + 1)) r with
      | some (v, L', U', n') => match backL L' U' n' (tgt args as) rs with
        | some (L'', U'') => setM E.N s dst v L'' U'' K
        | none => False
      | none => False
    | none => False
  | none => False
def callOf (s : AS) (o : Oper) : Option (Nat × List AV) :=
  match o.op with
  | .call c => match c.callee with
    | .value f => match s.rd f with
      | .fn f caps => some (f, c.args.toList.map s.rd ++ caps)
      | _ => none
    | _ => none
  | _ => none
def aop (E : Ctx) (ops : List Oper) (o : Oper) (s : AS) (K : AS → Prop) : Prop :=
  match guardsOf ops s o with
  | none => False
  | some [] => match okOps s [] o with
    | true => match callOf s o with
      | some (f, args) => acall E s o.dst f args K
      | none => match qval E.T s o with
        | some (O, v) => ob s [] O (setK E.N s o.dst [] v K)
        | none => match lval E.T s o with
          | some (O, v, L, U) => ob s [] O (setM E.N s o.dst v L U K)
          | none => False
    | false => False
  | some (x :: g') => match okOps s (x :: g') o with
    | true => match callOf s o with
      | some (f, args) => match E.C f with
        | some (.pure F) => match argL .ps s.locs args, noLp args with
          | some (as, _), true => match pf F args as with
            | some (O, v) => ob s (x :: g') O (setK E.N s o.dst (x :: g') v K)
            | none => False
          | _, _ => False
        | some (.gen _ _) => gDo s (x :: g') (acall E s o.dst f args K) ∧ gNot s (x :: g') (setK E.N s o.dst (x :: g') (dumV (E.T o.type)) K)
        | none => False
      | none => match qval E.T s o with
        | some (O, v) => ob s (x :: g') O (setK E.N s o.dst (x :: g') v K)
        | none => match lval E.T s o with
          | some (O, v, L, U) => gDo s (x :: g') (ob s [] O (setM E.N s o.dst v L U K)) ∧ gNot s (x :: g') (setK E.N s o.dst (x :: g') (dumV (E.T o.type)) K)
          | none => False
    | false => False
def aops (E : Ctx) (ops : List Oper) : List Oper → AS → (AS → Prop) → Prop
  | [], s, K => K s
  | o :: r, s, K => aop E ops o s fun s' => aops E ops r s' K
def nthO : List Oper → Nat → Option Oper
  | [], _ => none
  | o :: _, 0 => some o
  | _ :: r, n + 1 => nthO r n
def qeval (E : Ctx) (s : AS) (o : Oper) : QR :=
  match callOf s o with
  | some (f, args) => match E.C f with
    | some (.pure F) => match argL .ps s.locs args, noLp args with
      | some (as, _), true => pf F args as
      | _, _ => none
    | _ => none
  | none => qval E.T s o
def aq (E : Ctx) (ops : List Oper) (o : Oper) (s : AS) (K : AS → Prop) : Prop :=
  match guardsOf ops s o with
  | some g => match okOps s g o with
    | true => match qeval E s o with
      | some (O, v) => ob s g O (setK E.N s o.dst g v K)
      | none => False
    | false => False
  | none => False
def al (E : Ctx) (o : Oper) (s : AS) (K : AS → Prop) : Prop :=
  match o.guard with
  | none => match okOps s [] o with
    | true => match callOf s o with
      | some (f, args) => match E.C f with
        | some (.gen own C) => match argL own s.locs args with
          | some (as, L) => C as fun r rs => match takeR L s.used (1000 * (o.dst.getD 0 + 1)) r with
            | some (v, L', U', n') => match backL L' U' n' (tgt args as) rs with
              | some (L'', U'') => setM E.N s o.dst v L'' U'' K
              | none => False
            | none => False
          | none => False
        | _ => False
      | none => match qval E.T s o with
        | some _ => False
        | none => match lval E.T s o with
          | some (O, v, L, U) => ob s [] O (setM E.N s o.dst v L U K)
          | none => False
    | false => False
  | some _ => False
def rechk (E : Ctx) (ops : List Oper) : List Nat → AS → Prop → Prop
  | [], _, K => K
  | j :: r, s, K => match nthO ops j with
    | some o => match o.dst with
      | some d => match qeval E s o with
        | some (O, v) => ob s (s.env d).g O (fv v fun v => Obl (v = (s.env d).v) (rechk E ops r s K))
        | none => False
      | none => False
    | none => False
def dropG (s : AS) : AS :=
  ⟨fun t => match s.env t with
    | ⟨[], v⟩ => ⟨[], v⟩
    | _ => ⟨[], .opq⟩, s.locs, s.used⟩
def adraw (E : Ctx) (ops : List Oper) : List DI → AS → (AS → Prop) → Prop
  | [], s, K => K s
  | .q i :: r, s, K => match nthO ops i with
    | some o => aq E ops o s fun s' => adraw E ops r s' K
    | none => False
  | .l i re :: r, s, K => match nthO ops i with
    | some o => al E o s fun s' => rechk E ops re s' (adraw E ops r s' K)
    | none => False
  | .a i :: r, s, K => match nthO ops i with
    | some o => al E o s fun s' => adraw E ops r s' K
    | none => False
def allocO (o : Oper) : Bool := match o.op with
  | .alloc _ => true
  | .buildSlice _ _ parts => allC parts.toList
  | _ => false
def bareA : AS := ⟨fun _ => ⟨[], .opq⟩, fun _ => none, fun _ => false⟩
def aRes (T : Tab) (o : Oper) (d : Nat) : Option (AV × LC) :=
  match o.op with
  | .alloc t => match zeroOf (T t) with
    | c :: r => some (.lp d 0, zLC t (c :: r))
    | [] => none
  | .buildSlice t n parts => match allC parts.toList, T t with
    | true, .sl E => match partsOf bareA 0 bareA.locs parts.toList E with
      | some (l, _) => match Nat.beq l.length n, Nat.ble n 1000 with
        | true, true => some (.ls d, .arr E l)
        | _, _ => none
      | none => none
    | _, _ => none
  | _ => none
def pendOK (E : Ctx) (ops : List Oper) (s : AS) : List DI → Bool
  | [] => true
  | .a i :: r => match nthO ops i with
    | some o => match o.dst with
      | some d => match aRes E.T o d, Nat.blt d E.N, Nat.blt d 1000, s.used d, s.locs d with
        | some _, true, true, false, none => pendOK E ops s r
        | _, _, _, _, _ => false
      | none => false
    | none => false
  | _ :: r => pendOK E ops s r
inductive Ex where
  | normal | exit (id : Nat) | ret
def lookL {β : Type} : List (Nat × β) → Nat → Option β
  | [], _ => none
  | (k, v) :: r, t => match Nat.beq k t with
    | true => some v
    | false => lookL r t
def memN : List Nat → Nat → Bool
  | [], _ => false
  | k :: r, t => match Nat.beq k t with
    | true => true
    | false => memN r t
def writes : Code → List Nat
  | .region _ ops _ => ops.toList.filterMap (·.dst)
  | .seq a b => writes a ++ writes b
  | .cond _ a b => writes a ++ writes b
  | .block _ a | .loop a | .scope a => writes a
  | _ => []
def headS (s : AS) (W keep : List Nat) (e : List (Nat × AV)) (lo : List (Nat × LC)) : AS :=
  ⟨fun t => match memN W t with
      | true => match lookL e t with
        | some v => ⟨[], v⟩
        | none => ⟨[], .opq⟩
      | false => match s.env t with
        | ⟨[], v⟩ => ⟨[], v⟩
        | _ => ⟨[], .opq⟩,
    fun id => match lookL lo id with
      | some c => some c
      | none => match memN keep id with
        | true => s.locs id
        | false => none,
    fun id => match lookL lo id with
      | some _ => true
      | none => s.used id⟩
def sg (σ : List (Nat × Nat)) (id : Nat) : Nat := match lookL σ id with | some j => j | none => id
def eqE (E E' : El) (l : List (ElT E)) (l' : List (ElT E')) : Prop :=
  match castE E E' l' with
  | some m => l = m
  | none => False
def eqA (M : List Nat) (σ : List (Nat × Nat)) : AV → AV → Prop
  | .int .i64 n, .int .i64 m => n = m
  | .int .u8 n, .int .u8 m => n = m
  | .bool a, .bool b => a = b
  | .str a, .str b => a = b
  | .ps E l, .ps E' l' => eqE E E' l l'
  | .nils E, .nils E' => E = E'
  | .nils E, .ps E' l' => E = E' ∧ l'.length = 0
  | .ls id, .ls id' => match memN M id' with
    | true => id = sg σ id'
    | false => False
  | .lp id off, .lp id' off' => match memN M id' with
    | true => id = sg σ id' ∧ off = off'
    | false => False
  | .nilp, .nilp => True
  | .opq, .opq => True
  | _, _ => False
def eqL (M : List Nat) (σ : List (Nat × Nat)) : List AV → List AV → Prop → Prop
  | [], [], K => K
  | a :: l, b :: m, K => eqA M σ a b ∧ eqL M σ l m K
  | _, _, _ => False
def eqS (M : List Nat) (σ : List (Nat × Nat)) : AV → AV → Prop → Prop
  | .st cs, .st cs', K => eqL M σ cs cs' K
  | a, b, K => eqA M σ a b ∧ K
def eqC (M : List Nat) (σ : List (Nat × Nat)) : LC → LC → Prop → Prop
  | .box cs, .box cs', K => eqL M σ cs cs' K
  | .arr E l, .arr E' l', K => eqE E E' l l' ∧ K
  | .frz E l, .frz E' l', K => eqE E E' l l' ∧ K
  | .tree E l, .tree E' l', K => eqE E E' l l' ∧ K
  | .bld b, .bld b', K => b = b' ∧ K
  | .mp l, .mp l', K => l = l' ∧ K
  | _, _, _ => False
def covE (M : List Nat) (σ : List (Nat × Nat)) (s : AS) : List (Nat × AV) → Prop → Prop
  | [], K => K
  | (t, v) :: r, K => match s.env t with
    | ⟨[], u⟩ => eqS M σ u v (covE M σ s r K)
    | _ => False
def covL (M : List Nat) (σ : List (Nat × Nat)) (s : AS) : List (Nat × LC) → Prop → Prop
  | [], K => K
  | (id, c) :: r, K => match s.locs (sg σ id) with
    | some c' => eqC M σ c' c (covL M σ s r K)
    | none => False
def covK (s0 s : AS) : List Nat → Prop → Prop
  | [], K => K
  | id :: r, K => match s0.locs id with
    | some c => s.locs id = some c ∧ covK s0 s r K
    | none => False
def keysOf : List (Nat × LC) → List Nat → List Nat
  | [], k => k
  | (id, _) :: r, k => id :: keysOf r k
def cov (σ : List (Nat × Nat)) (s0 s : AS) (keep : List Nat) (e : List (Nat × AV)) (lo : List (Nat × LC)) : Prop :=
  covE (keysOf lo keep) σ s e (covL (keysOf lo keep) σ s lo (covK s0 s keep True))
def sgOk (σ : List (Nat × Nat)) (s0 : AS) (keep : List Nat) (lo : List (Nat × LC)) : Prop :=
  (∀ p ∈ σ, s0.used p.1 = false) ∧ ((lo.map fun p => sg σ p.1) ++ keep).Nodup ∧ (lo.map (·.1) ++ keep).Nodup
def fzV (L : Locs) (fz : List Nat) : AV → AV
  | .ls id => match memN fz id with
    | true => match L id with
      | some (.frz E l) => .ps E l
      | _ => .ls id
    | false => .ls id
  | v => v
def fzT (L : Locs) (fz : List Nat) : AV → AV
  | .st cs => .st (cs.map (fzV L fz))
  | v => fzV L fz v
def fzL : Locs → List Nat → Locs
  | L, [] => L
  | L, id :: r => match L id with
    | some (.arr E l) => fzL (upd L id (some (.frz E l))) r
    | _ => fzL L r
def fzS (W : List Nat) (s : AS) : List Nat → AS
  | [] => s
  | i :: r => ⟨fun t => match memN W t with
      | true => match s.env t with
        | ⟨g, v⟩ => ⟨g, fzT (fzL s.locs (i :: r)) (i :: r) v⟩
      | false => s.env t,
    fun id => match fzL s.locs (i :: r) id with
      | some (.box cs) => some (.box (cs.map (fzV (fzL s.locs (i :: r)) (i :: r))))
      | c => c, s.used⟩
def aloop (B : (Ex → AS → Prop) → AS → Prop) (W : List Nat) (Q : Ex → AS → Prop) (s : AS) : Prop :=
  ∃ (X : Type) (I : X → Prop) (m : X → Nat) (e : X → List (Nat × AV)) (lo : X → List (Nat × LC)) (keep : List Nat) (x0 : X) (σ0 : List (Nat × Nat)) (fz0 : List Nat),
    I x0 ∧ cov σ0 s (fzS W s fz0) keep (e x0) (lo x0) ∧ sgOk σ0 s keep (lo x0) ∧
    ∀ x, I x → B (fun ex s' => match ex with
        | .normal => ∃ x' σ fz, I x' ∧ m x' < m x ∧ cov σ s (fzS W s' fz) keep (e x') (lo x') ∧ sgOk σ s keep (lo x')
        | ex => Q ex s') (headS s W keep (e x) (lo x))
attribute [irreducible] aloop
theorem aloop_intro {B : (Ex → AS → Prop) → AS → Prop} {W : List Nat} {Q : Ex → AS → Prop} {s : AS}
    (X : Type) (I : X → Prop) (m : X → Nat) (e : X → List (Nat × AV)) (lo : X → List (Nat × LC)) (keep : List Nat) (x0 : X) (σ0 : List (Nat × Nat)) (fz0 : List Nat)
    (h0 : I x0) (h1 : cov σ0 s (fzS W s fz0) keep (e x0) (lo x0)) (h2 : sgOk σ0 s keep (lo x0))
    (h3 : ∀ x, I x → B (fun ex s' => match ex with
        | .normal => ∃ x' σ fz, I x' ∧ m x' < m x ∧ cov σ s (fzS W s' fz) keep (e x') (lo x') ∧ sgOk σ s keep (lo x')
        | ex => Q ex s') (headS s W keep (e x) (lo x))) : aloop B W Q s := by
  unfold aloop; exact ⟨X, I, m, e, lo, keep, x0, σ0, fz0, h0, h1, h2, h3⟩
def awp (E : Ctx) : Code → (Ex → AS → Prop) → AS → Prop
  | .skip, Q, s => Q .normal s
  | .region _ ops false, Q, s => aops E ops.toList ops.toList s (Q .normal)
  | .region id ops true, Q, s => match pendOK E ops.toList s (E.O id) with
    | true => adraw E ops.toList (E.O id) (dropG s) (Q .normal)
    | false => False
  | .seq a b, Q, s => awp E a (fun ex s' => match ex with | .normal => awp E b Q s' | ex => Q ex s') s
  | .cond c a b, Q, s => match okOpnd s [] c with
    | true => match s.rd c with
      | .bool t => Cnd t (awp E a Q s) (awp E b Q s)
      | _ => False
    | false => False
  | .block id c, Q, s => awp E c (fun ex s' => match ex with
      | .exit i => match Nat.beq i id with
        | true => Q .normal s'
        | false => Q (.exit i) s'
      | ex => Q ex s') s
  | .loop c, Q, s => aloop (awp E c) (writes c) Q s
  | .exit id, Q, s => Q (.exit id) s
  | .ret, Q, s => Q .ret s
  | _, _, _ => False
def resOf (T : Tab) (s : AS) : List ResultVar → Option (List AV)
  | [] => some []
  | .tmp t :: r => match s.env t with
    | ⟨[], v⟩ => match resOf T s r with
      | some vs => some (v :: vs)
      | none => none
    | _ => none
  | .cell t ty :: r => match s.env t with
    | ⟨[], v⟩ => match qLoad (T ty) s.locs v with
      | some (_, v') => match resOf T s r with
        | some vs => some (v' :: vs)
        | none => none
      | none => none
    | _ => none
def giveR (own : Md) : Locs → List AV → Option (List AV × Locs)
  | L, [] => some ([], L)
  | L, v :: r => match (match own with | .ps => persistS L v | _ => giveS L v) with
    | some (v', L') => match giveR own L' r with
      | some (r', L'') => some (v' :: r', L'')
      | none => none
    | none => none
def refsOf (L : Locs) (refs : List AV) : Option (List AV) :=
  match argL .ow L refs with
  | some (rs, _) => some rs
  | none => none
def afin (T : Tab) (own : Md) (rvs : List ResultVar) (refs : List AV) (K : AV → List AV → Prop) (s : AS) : Prop :=
  match resOf T s rvs with
  | some vs => match giveR own s.locs vs with
    | some (vs', L) => match refsOf L refs with
      | some rs => match vs' with
        | [v] => K v rs
        | vs' => K (.tup vs') rs
      | none => False
    | none => match vs with
      | [.lp id 0] => match argL .ow s.locs (.lp id 0 :: refs) with
        | some (.ref cs :: rs, _) => K (.ref cs) rs
        | _ => False
      | _ => False
  | none => False
def fnOf : AV → Option AV
  | .fn f caps => some (.fn f caps)
  | _ => none
def startA : Nat → List AV → AS → List AV → Option (AS × List AV)
  | _, [], s, refs => some (s, refs)
  | p, .ref cs :: r, s, refs => match takeL s.locs s.used (1000000 * (p + 1) + 1) cs with
    | some (cs', L, U, _) => match U (1000000 * (p + 1)) with
      | false => startA (p + 1) r ⟨putE s.env p ⟨[], .lp (1000000 * (p + 1)) 0⟩, upd L (1000000 * (p + 1)) (some (.box cs')), upd U (1000000 * (p + 1)) true⟩ (refs ++ [.lp (1000000 * (p + 1)) 0])
      | true => none
    | none => none
  | p, .rb b :: r, s, refs => match s.used (1000000 * (p + 1)) with
    | false => startA (p + 1) r ⟨putE s.env p ⟨[], .lp (1000000 * (p + 1)) 0⟩, upd s.locs (1000000 * (p + 1)) (some (.bld b)), upd s.used (1000000 * (p + 1)) true⟩ (refs ++ [.lp (1000000 * (p + 1)) 0])
    | true => none
  | p, .tup [v] :: r, s, refs => match takeS s.locs s.used (1000000 * (p + 1)) v with
    | some (v', L, U, _) => startA (p + 1) r ⟨putE s.env p ⟨[], v'⟩, L, U⟩ (refs ++ tgtV v' v)
    | none => none
  | p, v :: r, s, refs => match takeS s.locs s.used (1000000 * (p + 1)) v with
    | some (v', L, U, _) => startA (p + 1) r ⟨putE s.env p ⟨[], v'⟩, L, U⟩ refs
    | none => match fnOf v with
      | some u => startA (p + 1) r ⟨putE s.env p ⟨[], u⟩, s.locs, s.used⟩ refs
      | none => none
def emptyA : AS := ⟨fun _ => ⟨[], .opq⟩, fun _ => none, fun _ => false⟩
def abody (E : Ctx) (O : Nat → List DI) (own : Md) (fn : Func) (c : Code) (args : List AV) (K : AV → List AV → Prop) : Prop :=
  match startA 0 args emptyA [] with
  | some (s, refs) => awp { E with N := fn.ntmps, O := O } c (fun ex s' => match ex with
    | .normal => afin E.T own fn.results.toList refs K s'
    | .ret => afin E.T own fn.results.toList refs K s'
    | _ => False) s
  | none => False
def emptyU (u : Nat → Bool) : AS := ⟨fun _ => ⟨[], .opq⟩, fun _ => none, u⟩
def abodyU (u0 : Nat → Bool) (E : Ctx) (O : Nat → List DI) (own : Md) (fn : Func) (c : Code) (args : List AV) (K : AV → List AV → Prop) : Prop :=
  match startA 0 args (emptyU u0) [] with
  | some (s, refs) => awp { E with N := fn.ntmps, O := O } c (fun ex s' => match ex with
    | .normal => afin E.T own fn.results.toList refs K s'
    | .ret => afin E.T own fn.results.toList refs K s'
    | _ => False) s
  | none => False
end Go.Rs
end
section
namespace Go.Rs
inductive Rep (U : Nat → Bool) (ν : Nat → Value) (γ : Nat → Nat) (w : World) : Value → AV → Prop
  | opq (x) : Rep U ν γ w x .opq
  | int (k n) : Rep U ν γ w (.int k n) (.int k n)
  | bool (b) : Rep U ν γ w (.bool b) (.bool b)
  | str (s : Bs) (hM : s.length ≤ MX) : Rep U ν γ w (.string ⟨s.toArray⟩) (.str s)
  | st (xs : List Value) (cs : List AV) (hl : xs.length = cs.length) (h1 : ∀ x ∈ xs, x.oneCell' = true) (h : ∀ i, i < cs.length → Rep U ν γ w (xs.getD i undef) (cs.getD i .opq)) : Rep U ν γ w (.agg xs.toArray) (.st cs)
  | ps (E : El) (l : List (ElT E)) (a : Option Addr) (cap : Nat) (c : Nat → Value) (hM : l.length ≤ MX) (hc : l.length ≤ cap)
      (ha : l = [] ∨ ∃ b off, a = some ⟨b, off, none⟩ ∧ off + l.length * esz E ≤ γ b ∧ ∀ k, k < l.length * esz E → w.cell? ⟨b, off + k, none⟩ = some (c k))
      (h1 : ∀ k, k < l.length * esz E → (c k).oneCell' = true)
      (hr : ∀ i, i < l.length → ∀ j, j < esz E → Rep U ν γ w (c (i * esz E + j)) ((enc E (l.getD i (elDef E))).getD j .opq)) :
      Rep U ν γ w (.slice a l.length cap) (.ps E l)
  | niln : Rep U ν γ w (.slice none 0 0) .niln
  | ifc0 : Rep U ν γ w .nilIface (.ifc true)
  | ifc1 (te : TypeId) (pe : Value) : Rep U ν γ w (.iface te pe) (.ifc false)
  | nils (E) : Rep U ν γ w (.slice none 0 0) (.nils E)
  | ls (id) (hu : U id = true) (ho : (ν id).oneCell' = true) : Rep U ν γ w (ν id) (.ls id)
  | lp (id off b) (hu : U id = true) (h : ν id = .pointer (some ⟨b, 0, none⟩)) : Rep U ν γ w (.pointer (some ⟨b, off, none⟩)) (.lp id off)
  | ep (E : El) (l : List (ElT E)) (i : Int) (off b o len cap : Nat) (hs : Rep U ν γ w (.slice (some ⟨b, o, none⟩) len cap) (.ps E l)) (h0 : 0 ≤ i) (h1 : i < l.length) :
      Rep U ν γ w (.pointer (some ⟨b, o + (i.toNat * esz E + off), none⟩)) (.ep E l i off)
  | ap (E : El) (id : Nat) (i : Int) (off b len cap : Nat) (hu : U id = true) (h : ν id = .slice (some ⟨b, 0, none⟩) len cap) (h0 : 0 ≤ i) (h1 : i < len) :
      Rep U ν γ w (.pointer (some ⟨b, i.toNat * esz E + off, none⟩)) (.ap E id i off)
  | nilp : Rep U ν γ w (.pointer none) .nilp
  | fn (f : Nat) (caps : List AV) (xs : List Value) (hl : xs.length = caps.length) (h : ∀ i, i < caps.length → Rep U ν γ w (xs.getD i undef) (caps.getD i .opq)) :
      Rep U ν γ w (.func (.func f) #[] xs.toArray) (.fn f caps)
  | tup (xs : List Value) (cs : List AV) (hl : xs.length = cs.length) (h : ∀ i, i < cs.length → Rep U ν γ w (xs.getD i undef) (cs.getD i .opq)) : Rep U ν γ w (.tuple xs.toArray) (.tup cs)
structure Keeps (γ : Nat → Nat) (w : World) (γ' : Nat → Nat) (w' : World) : Prop where
  le : ∀ b, γ b ≤ γ' b
  cell : ∀ b o, o < γ b → w'.cell? ⟨b, o, none⟩ = w.cell? ⟨b, o, none⟩
theorem Keeps.refl (γ w) : Keeps γ w γ w := ⟨fun _ => Nat.le_refl _, fun _ _ _ => rfl⟩
theorem Keeps.trans {γ w γ' w' γ'' w''} (h : Keeps γ w γ' w') (h' : Keeps γ' w' γ'' w'') : Keeps γ w γ'' w'' :=
  ⟨fun b => Nat.le_trans (h.le b) (h'.le b), fun b o ho => (h'.cell b o (Nat.lt_of_lt_of_le ho (h.le b))).trans (h.cell b o ho)⟩
theorem Rep.keep {U ν γ w x v} (h : Rep U ν γ w x v) {U' : Nat → Bool} {ν' γ' w'} (hk : Keeps γ w γ' w') (hU : ∀ id, U id = true → U' id = true) (hν : ∀ id, U id = true → ν' id = ν id) :
    Rep U' ν' γ' w' x v := by
  induction h with
  | opq x => exact .opq x
  | int k n => exact .int k n
  | bool b => exact .bool b
  | str s hM => exact .str s hM
  | st xs cs hl h1 h ih => exact .st xs cs hl h1 ih
  | ps E l a cap c hM hc ha h1 hr ih =>
    refine .ps E l a cap c hM hc ?_ h1 ih
    rcases ha with ha | ⟨b, off, e, hle, hcell⟩
    · exact .inl ha
    · exact .inr ⟨b, off, e, Nat.le_trans hle (hk.le b), fun k hkk => (hk.cell b (off + k) (by omega)).trans (hcell k hkk)⟩
  | niln => exact .niln
  | ifc0 => exact .ifc0
  | ifc1 te pe => exact .ifc1 te pe
  | nils E => exact .nils E
  | ls id hu ho => rw [← hν id hu]; exact .ls id (hU id hu) (by rw [hν id hu]; exact ho)
  | lp id off b hu h => exact .lp id off b (hU id hu) ((hν id hu).trans h)
  | ep E l i off b o len cap hs h0 h1 ih => exact .ep E l i off b o len cap ih h0 h1
  | ap E id i off b len cap hu h h0 h1 => exact .ap E id i off b len cap (hU id hu) ((hν id hu).trans h) h0 h1
  | nilp => exact .nilp
  | fn f caps xs hl h ih => exact .fn f caps xs hl ih
  | tup xs cs hl h ih => exact .tup xs cs hl ih
def TG : Nat := 2
def EG : List Nat := []
def isTab (b : Nat) : Bool := Nat.beq TG (b + 1) || memN EG b
def pow10L : List Int := (List.range 20).map fun i => ((10 ^ i : Nat) : Int)
structure Tabs (w : World) : Prop where
  tab : ∀ g, TG = g + 1 → ∃ T fz, w.heap[g]? = some (.cells (pow10L.map fun z => Value.int .u64 z).toArray T fz)
  err : ∀ g, memN EG g = true → ∃ v T fz, w.heap[g]? = some (.cells #[v] T fz) ∧ (v = .nilIface ∨ ∃ te pe, v = .iface te pe)
theorem isTab_iff {b : Nat} : isTab b = true ↔ TG = b + 1 ∨ memN EG b = true := by
  unfold isTab
  rw [Bool.or_eq_true]
  exact ⟨fun h => h.imp Nat.eq_of_beq_eq_true (fun h => h), fun h => h.imp (fun h => by rw [h]; exact Nat.beq_refl _) (fun h => h)⟩
theorem Tabs.lt {w : World} (h : Tabs w) {b : Nat} (hb : isTab b = true) : b < w.heap.size := by
  have key : ∀ {x}, w.heap[b]? = some x → b < w.heap.size := by
    intro x hx
    rcases Nat.lt_or_ge b w.heap.size with h | h
    · exact h
    · rw [Array.getElem?_eq_none h] at hx; cases hx
  rcases isTab_iff.1 hb with h1 | h1
  · obtain ⟨T, fz, h2⟩ := h.tab b h1; exact key h2
  · obtain ⟨v, T, fz, h2, -⟩ := h.err b h1; exact key h2
theorem Tabs.keep {w w' : World} (h : Tabs w) (hk : ∀ b, isTab b = true → w'.heap[b]? = w.heap[b]?) : Tabs w' := by
  refine ⟨fun g hg => ?_, fun g hg => ?_⟩
  · obtain ⟨T, fz, h2⟩ := h.tab g hg
    exact ⟨T, fz, by rw [hk g (isTab_iff.2 (.inl hg)), h2]⟩
  · obtain ⟨v, T, fz, h2, h3⟩ := h.err g hg
    exact ⟨v, T, fz, by rw [hk g (isTab_iff.2 (.inr hg)), h2], h3⟩
structure Base where
  w : World
  γ : Nat → Nat
  may : Nat → Prop
  pin : Nat → Option Value
  tw : Tabs w
  tb : ∀ b, isTab b = true → ¬ may b
def Base.ok (B : Base) (b : Nat) : Prop := B.w.heap.size ≤ b ∨ B.may b
def Row (B : Base) (γ : Nat → Nat) (w : World) (b : Nat) (xs : List Value) : Prop :=
  B.ok b ∧ γ b = 0 ∧ (∀ x ∈ xs, x.oneCell' = true) ∧ ∃ T, w.heap[b]? = some (.cells xs.toArray T (0, 0))
def BX (w : World) (b : Nat) (x : Value) : Prop := (x = .pointer none ∨ x = .pointer (some ⟨b, 0, none⟩)) ∧ w.shape? b = some (BT, 2)
def BN (w : World) (b' b : Nat) : Prop := b' ≠ b ∧ ∃ n, w.shape? b' = some (B8, n)
structure MapIs (es : Array MapEntry) (clock : Nat) (l : List (Bs × Int)) : Prop where
  st : Go.MapKept.Stamped es clock
  sz : es.size ≤ l.length
  e : ∀ x ∈ es.toList, ∃ (s : Bs) (z : Int), x.key = .string ⟨s.toArray⟩ ∧ s.length ≤ MX ∧ x.val = .int .i64 z ∧ (Lit.int .i64 z).wf = true ∧ mget l s = some z
  m : ∀ (s : Bs) (z : Int), mget l s = some z → ∃ x ∈ es.toList, x.key = .string ⟨s.toArray⟩
def inn (n : Nat) (bss : Nat → List Nat) : List Nat := (List.range n).flatMap bss
inductive Deep (w : World) : Value → AV → List Nat → Prop
  | int (k n) : Deep w (.int k n) (.int k n) []
  | bool (b) : Deep w (.bool b) (.bool b) []
  | str (s : Bs) (hM : s.length ≤ MX) : Deep w (.string ⟨s.toArray⟩) (.str s) []
  | nil (E : El) (a : Option Addr) (cap : Nat) : Deep w (.slice a 0 cap) (.ps E []) []
  | sl (E : El) (l : List (ElT E)) (b cap : Nat) (xs : List Value) (T : Nat) (bss : Nat → List Nat) (hM : l.length ≤ MX) (hc : l.length ≤ cap) (h0 : l ≠ []) (hb : w.heap[b]? = some (.cells xs.toArray T (0, 0)))
      (hl : xs.length = cap * esz E) (h1 : ∀ x ∈ xs, x.oneCell' = true)
      (hr : ∀ i, i < l.length → ∀ j, j < esz E → Deep w (xs.getD (i * esz E + j) undef) ((enc E (l.getD i (elDef E))).getD j .opq) (bss (i * esz E + j))) :
      Deep w (.slice (some ⟨b, 0, none⟩) l.length cap) (.ps E l) (b :: inn (l.length * esz E) bss)
def full (γ : Nat → Nat) (w : World) (c : Nat) : Prop := ∀ ys T fz, w.heap[c]? = some (.cells ys T fz) → ys.size ≤ γ c
structure Inner (B : Base) (γ : Nat → Nat) (w : World) (E : El) (l : List (ElT E)) (xs : List Value) (bss : Nat → List Nat) : Prop where
  deep : ∀ i, i < l.length → ∀ j, j < esz E → Deep w (xs.getD (i * esz E + j) undef) ((enc E (l.getD i (elDef E))).getD j .opq) (bss (i * esz E + j))
  nodup : (inn (l.length * esz E) bss).Nodup
  ok : ∀ c ∈ inn (l.length * esz E) bss, B.ok c ∧ full γ w c
def LocOK (B : Base) (U : Nat → Bool) (ν : Nat → Value) (γ : Nat → Nat) (w : World) (id : Nat) : LC → Prop
  | .box cs => ∃ b xs, ν id = .pointer (some ⟨b, 0, none⟩) ∧ Row B γ w b xs ∧ xs.length = cs.length ∧ ∀ i, i < cs.length → Rep U ν γ w (xs.getD i undef) (cs.getD i .opq)
  | .arr E l => ∃ a cap, ν id = .slice a l.length cap ∧ l.length ≤ MX ∧ l.length ≤ cap ∧
      ((cap = 0) ∨ ∃ b xs, a = some ⟨b, 0, none⟩ ∧ Row B γ w b xs ∧ xs.length = cap * esz E ∧
        ∀ i, i < l.length → ∀ j, j < esz E → Rep U ν γ w (xs.getD (i * esz E + j) undef) ((enc E (l.getD i (elDef E))).getD j .opq))
  | .frz E l => Rep U ν γ w (ν id) (.ps E l)
  | .raw E l => ∃ bs, Deep w (ν id) (.ps E l) bs ∧ bs.Nodup ∧ ∀ c ∈ bs, B.ok c ∧ γ c = 0
  | .tree E l => ∃ a cap, ν id = .slice a l.length cap ∧ l.length ≤ MX ∧ l.length ≤ cap ∧
      ((cap = 0) ∨ ∃ b xs bss, a = some ⟨b, 0, none⟩ ∧ Row B γ w b xs ∧ xs.length = cap * esz E ∧ Inner B γ w E l xs bss)
  | .bld s => s.length ≤ MX ∧ ∃ b x v, ν id = .pointer (some ⟨b, 0, none⟩) ∧ Row B γ w b [x, v] ∧ BX w b x ∧
      ∃ a cap, v = .slice a s.length cap ∧ s.length ≤ cap ∧
        ((cap = 0 ∧ a = none) ∨ ∃ b' xs, a = some ⟨b', 0, none⟩ ∧ BN w b' b ∧ Row B γ w b' xs ∧ xs.length = cap ∧ (∀ i, i < s.length → xs.getD i undef = .int .u8 (s.getD i 0).toNat) ∧ cap ≠ 0)
  | .mp l => l.length ≤ MX ∧ ∃ b es clock, ν id = .map (some b) ∧ B.ok b ∧ γ b = 0 ∧ w.heap[b]? = some (.map es clock) ∧ MapIs es clock l
def Owns (ν : Nat → Value) (w : World) (id : Nat) : LC → Nat → Prop
  | .box _, b => ν id = .pointer (some ⟨b, 0, none⟩)
  | .arr _ _, b => ∃ len cap, ν id = .slice (some ⟨b, 0, none⟩) len cap ∧ cap ≠ 0
  | .frz _ _, _ => False
  | .raw E l, b => ∃ bs, Deep w (ν id) (.ps E l) bs ∧ b ∈ bs
  | .tree E l, b => (∃ len cap, ν id = .slice (some ⟨b, 0, none⟩) len cap ∧ cap ≠ 0) ∨ ∃ bs, Deep w (ν id) (.ps E l) bs ∧ b ∈ bs
  | .bld _, b => ν id = .pointer (some ⟨b, 0, none⟩) ∨ ∃ b0 len cap, ν id = .pointer (some ⟨b0, 0, none⟩) ∧ w.cell? ⟨b0, 1, none⟩ = some (.slice (some ⟨b, 0, none⟩) len cap) ∧ cap ≠ 0
  | .mp _, b => ν id = .map (some b)
structure Mem (B : Base) (γ : Nat → Nat) (w : World) : Prop where
  os : w.os = B.w.os
  tape : w.tape = B.w.tape
  output : w.output = B.w.output
  size : B.w.heap.size ≤ w.heap.size
  block : ∀ b, b < B.w.heap.size → ¬ B.may b → w.heap[b]? = B.w.heap[b]? ∧ γ b = B.γ b
  fresh : ∀ b, w.heap.size ≤ b → γ b = 0
  keeps : Keeps B.γ B.w γ w
theorem Base.notab (B : Base) {b : Nat} (h : isTab b = true) : ¬ B.ok b := by
  rintro (h1 | h1)
  · exact Nat.not_lt.2 h1 (B.tw.lt h)
  · exact B.tb b h h1
theorem Mem.tabs {B : Base} {γ : Nat → Nat} {w : World} (h : Mem B γ w) : Tabs w := B.tw.keep fun b hb => (h.block b (B.tw.lt hb) (B.tb b hb)).1
theorem Base.ok_tab (B : Base) {b : Nat} (h : B.ok b) : isTab b = false := by
  cases h1 : isTab b with
  | false => rfl
  | true => exact absurd h (B.notab h1)
structure LocsOK (B : Base) (U : Nat → Bool) (ν : Nat → Value) (γ : Nat → Nat) (w : World) (L : Locs) : Prop where
  ok : ∀ id c, L id = some c → LocOK B U ν γ w id c
  used : ∀ id c, L id = some c → U id = true
  apart : ∀ i j c d b, L i = some c → L j = some d → Owns ν w i c b → Owns ν w j d b → i = j
structure StP (B : Base) (n : Nat) (s : AS) (a : Act) (w : World) (ν : Nat → Value) (γ : Nat → Nat) : Prop where
  defers : a.defers = []
  size : a.tmps.size = n
  mem : Mem B γ w
  env : ∀ t, gHolds s (s.env t).g → Rep s.used ν γ w (a.tmps.getD t undef) (s.env t).v
  locs : LocsOK B s.used ν γ w s.locs
  closed : ∀ t, ∀ x ∈ (s.env t).g, ∀ y ∈ (s.env x.1).g, y ∈ (s.env t).g
  live : ∀ t b, a.tmps.getD t undef = .bool b → gHolds s (s.env t).g
  pins : ∀ id v, B.pin id = some v → s.used id = true ∧ ν id = v
def St (B : Base) (n : Nat) (s : AS) (a : Act) (w : World) : Prop := ∃ ν γ, StP B n s a w ν γ
end Go.Rs
end
section
namespace Go.Rs
variable {P : Program}
def TIOK (P : Program) (t : Nat) : TI → Prop
  | .int k => ∃ i, P.info? t = some i ∧ i.size = 1 ∧ i.zero = some (.int k 0) ∧ P.underlying t = some (.int k)
  | .bool => ∃ i, P.info? t = some i ∧ i.size = 1 ∧ i.zero = some (.bool false) ∧ P.underlying t = some .bool
  | .str => ∃ i, P.info? t = some i ∧ i.size = 1 ∧ i.zero = some (.string ⟨#[]⟩) ∧ P.underlying t = some .string
  | .st fs z => ∃ i fields zs, P.info? t = some i ∧ i.size = z.length ∧ i.zero = some (.agg zs) ∧ zs.size = z.length ∧ (∀ x ∈ zs.toList, x.oneCell' = true) ∧
      (∀ U ν γ w k, k < z.length → Rep U ν γ w (zs.toList.getD k undef) (z.getD k .opq)) ∧ P.underlying t = some (.struct fields) ∧
      fs = fields.toList.map (fun f => (f.offset, f.type)) ∧ ∀ f ∈ fields, ∃ i, P.info? f.type = some i ∧ i.size ≠ 0
  | .sl E => ∃ i e ei z, P.info? t = some i ∧ i.size = 1 ∧ i.zero = some (.slice none 0 0) ∧ P.underlying t = some (.slice e) ∧ P.info? e = some ei ∧ ei.size = esz E ∧
      ei.zero = some z ∧ z.cells.size = esz E ∧ (∀ x ∈ z.cells.toList, x.oneCell' = true) ∧ (∀ U ν γ w j, j < esz E → Rep U ν γ w (z.cells.toList.getD j undef) ((enc E (elDef E)).getD j .opq)) ∧ 0 < ei.bytes ∧ ei.bytes ≤ 256 ∧
      (E = .u8 → P.underlying e = some (.int .u8))
  | .ptr => ∃ i e, P.info? t = some i ∧ i.size = 1 ∧ P.underlying t = some (.pointer e)
  | .fn => ∃ i a b c, P.info? t = some i ∧ i.size = 1 ∧ P.underlying t = some (.func a b c)
  | .mp => ∃ i kt et, P.info? t = some i ∧ i.size = 1 ∧ P.underlying t = some (.map kt et) ∧ P.underlying kt = some .string ∧ P.underlying et = some (.int .i64) ∧ ∃ ie, P.info? et = some ie ∧ ie.zero = some (.int .i64 0)
  | .ifc => ∃ i ms, P.info? t = some i ∧ i.size = 1 ∧ P.underlying t = some (.interface ms)
  | .other => True
def TabOK (P : Program) (T : Tab) : Prop := ∀ t, TIOK P t (T t)
theorem inK_wrap {k : IntKind} {n : Int} (h : inK k n) : k.wrap n = n := by
  cases k <;> simp only [inK] at h <;> first | exact h.elim | skip
  · simp [IntKind.wrap, IntKind.bits, IntKind.signed]
    split <;> omega
  · simp [IntKind.wrap, IntKind.bits, IntKind.signed]
    omega
  · simp [IntKind.wrap, IntKind.bits, IntKind.signed]
    omega
theorem seqL_eq {β : Type} (l : List AV) (K : List AV → β) : seqL l K = K l := by
  induction l generalizing K with
  | nil => rfl
  | cons a l ih => exact ih _
theorem seqB_eq {β : Type} (l : Bs) (K : Bs → β) : seqB l K = K l := by
  induction l generalizing K with
  | nil => rfl
  | cons a l ih => exact ih _
theorem fv_eq {β : Type} (v : AV) (K : AV → β) : fv v K = K v := by
  cases v <;> first | rfl | exact seqL_eq _ _
theorem seqV_eq {β : Type} (l : List AV) (K : List AV → β) : seqV l K = K l := by
  induction l generalizing K with
  | nil => rfl
  | cons a l ih => unfold seqV; rw [fv_eq]; exact ih _
theorem seqG_eq {β : Type} (l : List (Nat × Bool)) (K : List (Nat × Bool) → β) : seqG l K = K l := by
  induction l generalizing K with
  | nil => rfl
  | cons a l ih => obtain ⟨x, y⟩ := a; exact ih _
section
variable {U : Nat → Bool} {ν : Nat → Value} {γ : Nat → Nat} {w : World}
theorem rep_const (v : Value) : Rep U ν γ w v (ofConst v) := by
  unfold ofConst
  split
  · exact .int _ _
  · exact .bool _
  · rename_i s
    split
    · rename_i hb; rw [seqB_eq]; exact .str s.data.toList (Nat.le_of_ble_eq_true hb)
    · exact .opq _
  · exact .niln
  · exact .nilp
  · exact .ifc0
  · exact .opq _
theorem rep_fixT {x : Value} {v : AV} (h : Rep U ν γ w x v) (t : TI) : Rep U ν γ w x (fixT t v) := by
  unfold fixT
  split
  · cases h; exact .nils _
  · exact h
theorem rep_int {x : Value} {k n} (h : Rep U ν γ w x (.int k n)) : x = .int k n := by cases h; rfl
theorem rep_bool {x : Value} {b} (h : Rep U ν γ w x (.bool b)) : x = .bool b := by cases h; rfl
theorem rep_str_le {x : Value} {s} (h : Rep U ν γ w x (.str s)) : s.length ≤ MX := by cases h; assumption
theorem rep_str {x : Value} {s} (h : Rep U ν γ w x (.str s)) : x = .string ⟨s.toArray⟩ := by cases h; rfl
end
theorem run_underlying' {t d} {w : World} (h : P.underlying t = some d) : (underlying t).run P w = .ok d w := by simp [underlying, h]
theorem bs_size (s : Bs) : (ByteArray.mk s.toArray).size = s.length := by
  simp [ByteArray.size]
theorem less_total : ∀ x y : Bs, (Go.Op.bytesLess x y || x == y) = !Go.Op.bytesLess y x
  | [], [] => rfl
  | [], _ :: _ => rfl
  | _ :: _, [] => rfl
  | a :: x, b :: y => by
    have ih := less_total x y
    simp only [Go.Op.bytesLess]
    rcases Nat.lt_trichotomy a.toNat b.toNat with h | h | h
    · have h1 : a < b := UInt8.lt_iff_toNat_lt.2 h
      have h2 : ¬ b < a := fun h' => by have := UInt8.lt_iff_toNat_lt.1 h'; omega
      have h3 : (b == a) = false := by simp; intro e; subst e; omega
      simp [h1, h2, h3]
    · have e : a = b := UInt8.toNat_inj.1 h
      subst e
      have h2 : ¬ a < a := fun h' => by have := UInt8.lt_iff_toNat_lt.1 h'; omega
      simp only [h2, decide_false, Bool.false_or, beq_self_eq_true, Bool.true_and]
      rw [← ih]
      congr 1
      simp
    · have h1 : b < a := UInt8.lt_iff_toNat_lt.2 h
      have h2 : ¬ a < b := fun h' => by have := UInt8.lt_iff_toNat_lt.1 h'; omega
      have h3 : (a == b) = false := by simp; intro e; subst e; omega
      simp [h1, h2, h3]
theorem tdiv_nn {x y : Int} (h : 0 ≤ x) : x.tdiv y = x / y := by
  exact Int.tdiv_eq_ediv_of_nonneg h
theorem tmod_nn {x y : Int} (h : 0 ≤ x) : x.tmod y = x % y := by
  exact Int.tmod_eq_emod_of_nonneg h
theorem xor_nn {x y : Int} (h0 : 0 ≤ x) (h1 : x ≤ 9223372036854775807) (h2 : 0 ≤ y) (h3 : y ≤ 9223372036854775807) :
    IntKind.i64.wrap ((BitVec.ofInt IntKind.i64.bits x ^^^ BitVec.ofInt IntKind.i64.bits y).toNat : Int) = ((x.toNat ^^^ y.toNat : Nat) : Int) := by
  obtain ⟨a, rfl⟩ := Int.eq_ofNat_of_zero_le h0
  obtain ⟨b, rfl⟩ := Int.eq_ofNat_of_zero_le h2
  have ha : a < 2 ^ 63 := by omega
  have hb : b < 2 ^ 63 := by omega
  have hx : a ^^^ b < 2 ^ 63 := Nat.xor_lt_two_pow ha hb
  have e : (BitVec.ofInt IntKind.i64.bits (a : Int) ^^^ BitVec.ofInt IntKind.i64.bits (b : Int)).toNat = a ^^^ b := by
    rw [BitVec.toNat_xor]
    have e1 : (BitVec.ofInt IntKind.i64.bits (a : Int)).toNat = a := by
      simp [IntKind.bits]; omega
    have e2 : (BitVec.ofInt IntKind.i64.bits (b : Int)).toNat = b := by
      simp [IntKind.bits]; omega
    rw [e1, e2]
  rw [e]
  simp only [Int.toNat_natCast]
  exact inK_wrap (k := .i64) (by simp only [inK]; omega)
theorem qInt_sound {k : IntKind} {op t x y O v} {w : World} (hq : qInt k op x y = some (O, v)) (hO : ∀ p, O = some p → p) {U ν γ} :
    ∃ r, (binOp op t (.int k x) (.int k y)).run P w = .ok r w ∧ Rep U ν γ w r v := by
  cases op <;> simp only [qInt, Option.some.injEq, Prod.mk.injEq, reduceCtorEq] at hq
  case add => obtain ⟨rfl, rfl⟩ := hq; refine ⟨_, ?_, .int _ _⟩; simp [binOp, Op.intArith, inK_wrap (hO _ rfl)]
  case sub => obtain ⟨rfl, rfl⟩ := hq; refine ⟨_, ?_, .int _ _⟩; simp [binOp, Op.intArith, inK_wrap (hO _ rfl)]
  case mul => obtain ⟨rfl, rfl⟩ := hq; refine ⟨_, ?_, .int _ _⟩; simp [binOp, Op.intArith, inK_wrap (hO _ rfl)]
  case quo =>
    split at hq <;> simp only [Option.some.injEq, Prod.mk.injEq, reduceCtorEq] at hq
    obtain ⟨rfl, rfl⟩ := hq
    obtain ⟨h0, h1, h2⟩ := hO _ rfl
    have hy : y ≠ 0 := by omega
    have hw : IntKind.i64.wrap (x / y) = x / y := inK_wrap (k := .i64) (by
      have := Int.ediv_nonneg h0 (by omega : 0 ≤ y)
      have := Int.ediv_le_self y h0
      simp only [inK]; omega)
    refine ⟨_, ?_, .int _ _⟩; simp [binOp, Op.intDiv, hy, tdiv_nn h0, hw]
  case rem =>
    obtain ⟨rfl, rfl⟩ := hq
    obtain ⟨h0, h1⟩ := hO _ rfl
    have hy : y ≠ 0 := by omega
    refine ⟨_, ?_, .int _ _⟩; simp [binOp, Op.intDiv, hy, tmod_nn h0]
  case xor =>
    split at hq <;> simp only [Option.some.injEq, Prod.mk.injEq, reduceCtorEq] at hq
    obtain ⟨rfl, rfl⟩ := hq
    obtain ⟨⟨h0, h1⟩, h2, h3⟩ := hO _ rfl
    refine ⟨_, ?_, .int _ _⟩
    simp only [binOp, ne_eq, not_true_eq_false, if_false, Op.intBits]
    rw [xor_nn h0 h1 h2 h3]; rfl
  case eql => obtain ⟨rfl, rfl⟩ := hq; refine ⟨_, ?_, .bool _⟩; simp [binOp, Op.intCmp]; rfl
  case neq => obtain ⟨rfl, rfl⟩ := hq; refine ⟨_, ?_, .bool _⟩; simp [binOp, Op.intCmp]; rfl
  case lss => obtain ⟨rfl, rfl⟩ := hq; refine ⟨_, ?_, .bool _⟩; simp [binOp, Op.intCmp]
  case leq => obtain ⟨rfl, rfl⟩ := hq; refine ⟨_, ?_, .bool _⟩; simp [binOp, Op.intCmp]
  case gtr => obtain ⟨rfl, rfl⟩ := hq; refine ⟨_, ?_, .bool _⟩; simp [binOp, Op.intCmp]
  case geq => obtain ⟨rfl, rfl⟩ := hq; refine ⟨_, ?_, .bool _⟩; simp [binOp, Op.intCmp]
theorem beq_dec (x y : Bs) : (x == y) = decide (x = y) := by by_cases h : x = y <;> simp [h]
theorem run_equalIn_bool {t a b} {w : World} (d : Nat) (hu : P.underlying t = some .bool) : (Op.equalIn (d + 1) t (.bool a) (.bool b)).run P w = .ok (a == b) w := by
  simp [Op.equalIn, run_underlying' hu]
theorem run_equal_bool {t a b} {w : World} (hu : P.underlying t = some .bool) : (Op.equal t (.bool a) (.bool b)).run P w = .ok (a == b) w :=
  run_equalIn_bool 9999 hu
theorem run_eql_bool {t a b} {w : World} (hu : P.underlying t = some .bool) : (binOp .eql t (.bool a) (.bool b)).run P w = .ok (.bool (a == b)) w := by
  show ((do pure (Value.bool (← Op.equal t (.bool a) (.bool b)))) : Sem Value).run P w = _
  rw [Sem.run_bind, run_equal_bool hu]; rfl
theorem run_neq_bool {t a b} {w : World} (hu : P.underlying t = some .bool) : (binOp .neq t (.bool a) (.bool b)).run P w = .ok (.bool (!(a == b))) w := by
  show ((do pure (Value.bool (!(← Op.equal t (.bool a) (.bool b))))) : Sem Value).run P w = _
  rw [Sem.run_bind, run_equal_bool hu]; rfl
theorem qStr_sound {op t} {x y : Bs} {O v} {w : World} (hq : qStr op x y = some (O, v)) (hO : ∀ p, O = some p → p) {U ν γ} :
    ∃ r, (binOp op t (.string ⟨x.toArray⟩) (.string ⟨y.toArray⟩)).run P w = .ok r w ∧ Rep U ν γ w r v := by
  have ht := less_total x y
  have ht' := less_total y x
  cases op <;> simp only [qStr, Option.some.injEq, Prod.mk.injEq, reduceCtorEq] at hq
  case add =>
    obtain ⟨rfl, rfl⟩ := hq
    have h := hO _ rfl
    refine ⟨_, ?_, .str _ (by simp only [List.length_append, MX]; omega)⟩
    rw [← ByteArray.mk_append_mk]
    exact run_string_add_sum (P := P) w ⟨x.toArray⟩ ⟨y.toArray⟩ (by rw [bs_size, bs_size]; omega)
  case eql => obtain ⟨rfl, rfl⟩ := hq; refine ⟨_, ?_, .bool _⟩; rw [← beq_dec]; simp [binOp, Op.stringOp]
  case neq => obtain ⟨rfl, rfl⟩ := hq; refine ⟨_, ?_, .bool _⟩; rw [← beq_dec]; simp [binOp, Op.stringOp]
  case lss => obtain ⟨rfl, rfl⟩ := hq; refine ⟨_, ?_, .bool _⟩; simp [binOp, Op.stringOp, ltS]
  case leq => obtain ⟨rfl, rfl⟩ := hq; refine ⟨_, ?_, .bool _⟩; simp only [binOp, Op.stringOp, ltS, ByteArray.toList_mk, ht]; rfl
  case gtr => obtain ⟨rfl, rfl⟩ := hq; refine ⟨_, ?_, .bool _⟩; simp only [binOp, Op.stringOp, ltS, ByteArray.toList_mk, ht, Bool.not_not]; rfl
  case geq => obtain ⟨rfl, rfl⟩ := hq; refine ⟨_, ?_, .bool _⟩; simp [binOp, Op.stringOp, ltS]
theorem qBin_sound (T : Tab) (hT : TabOK P T) {op t} {a b : AV} {x y : Value} {O v} {w : World} {U ν γ} (hq : qBin (T t) op a b = some (O, v)) (hO : ∀ p, O = some p → p)
    (ha : Rep U ν γ w x a) (hb : Rep U ν γ w y b) : ∃ r, (binOp op t x y).run P w = .ok r w ∧ Rep U ν γ w r v := by
  unfold qBin at hq
  split at hq
  · rw [rep_int ha, rep_int hb]; exact qInt_sound hq hO
  · rw [rep_int ha, rep_int hb]; exact qInt_sound hq hO
  · rename_i a b
    rw [rep_int ha, rep_int hb]
    split at hq
    · rename_i hb1
      simp only [Option.some.injEq, Prod.mk.injEq] at hq
      obtain ⟨rfl, rfl⟩ := hq
      have h0 := hO _ rfl
      have e1 : b = 1 := by simpa [intB] using hb1
      subst e1
      refine ⟨_, ?_, .int _ _⟩
      have hm : min (Int.toNat 1) IntKind.u64.bits = 1 := by decide
      show (Op.shift .shr .u64 a .u64 1).run P w = _
      simp only [Op.shift, hm]
      have e2 : a.fdiv 2 = a / 2 := Int.fdiv_eq_ediv_of_nonneg _ (by decide)
      simp [e2]
    · exact qInt_sound hq hO
  · rw [rep_str ha, rep_str hb]; exact qStr_sound hq hO
  · rw [rep_bool ha, rep_bool hb]
    split at hq
    · rename_i ht
      have h := hT t
      rw [ht] at h
      obtain ⟨i, -, -, -, hu⟩ := h
      simp only [Option.some.injEq, Prod.mk.injEq] at hq
      obtain ⟨rfl, rfl⟩ := hq
      exact ⟨_, run_eql_bool hu, .bool _⟩
    · rename_i ht
      have h := hT t
      rw [ht] at h
      obtain ⟨i, -, -, -, hu⟩ := h
      simp only [Option.some.injEq, Prod.mk.injEq] at hq
      obtain ⟨rfl, rfl⟩ := hq
      exact ⟨_, run_neq_bool hu, .bool _⟩
    · cases hq
  · cases hq
end Go.Rs
end
