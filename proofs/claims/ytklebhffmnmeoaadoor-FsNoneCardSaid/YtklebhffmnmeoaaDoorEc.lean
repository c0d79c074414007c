/- The engine, part 3: the evaluator's operations on small worlds. -/
import Derived.Test.YtklebhffmnmeoaaDoorEb
import Derived.Laws.StructEq
namespace Go.Ab
open Go

/-- What is reckoned behind a name. -/
structure Prim where
  ar : BinOp → IntKind → Int → Int → Int
  eq : Int → Int → Bool
  lt : Int → Int → Bool
  le : Int → Int → Bool
  min : Int → Int → Int
  max : Int → Int → Int
  pos : Nat → Int → Nat → Nat
  diff : Int → Int → Nat
  rest : Nat → Int → Nat
  seq : ByteArray → ByteArray → Bool
  slt : ByteArray → ByteArray → Bool
  fits : ByteArray → ByteArray → Bool
  cat : ByteArray → ByteArray → ByteArray
  slen : ByteArray → Int
  sub : ByteArray → Int → Int → ByteArray
  byte : ByteArray → Int → Int
  enc : Int → ByteArray
  rget : List Value → Nat → Nat → Option (List Value)
  rget1 : List Value → Nat → Option Value
  rset : List Value → Nat → List Value → Option (List Value)
  find : Value → List MapEntry → Option (Option (Nat × Value))
  mmod : List MapEntry → Nat → Value → Value → List MapEntry
  mpush : List MapEntry → Value → Value → Nat → List MapEntry
  merase : List MapEntry → Nat → List MapEntry
  mlen : List MapEntry → Int
  next : Nat → Nat
  nat : Int → Nat
  nadd : Nat → Nat → Nat
  nmul : Nat → Nat → Nat
  nle : Nat → Nat → Bool
  zeros : List Value → Nat → List Value
  dec : ByteArray → Nat → Nat × Nat
  bytes : ByteArray → List Value
  text : List Value → Option ByteArray
  app : List Value → List Value → List Value
  okc : List Value → Bool

def realBits (op : BinOp) (k : IntKind) (x y : Int) : Int :=
  match op with
  | .and => k.wrap (BitVec.ofInt k.bits x &&& BitVec.ofInt k.bits y).toNat
  | .or => k.wrap (BitVec.ofInt k.bits x ||| BitVec.ofInt k.bits y).toNat
  | .xor => k.wrap (BitVec.ofInt k.bits x ^^^ BitVec.ofInt k.bits y).toNat
  | _ => k.wrap (BitVec.ofInt k.bits x &&& ~~~BitVec.ofInt k.bits y).toNat
def realSh (op : BinOp) (k : IntKind) (x y : Int) : Int :=
  match op with
  | .shl => k.wrap (x * 2 ^ (min y.toNat k.bits))
  | _ => x.fdiv (2 ^ (min y.toNat k.bits))
def beqL : List UInt8 → List UInt8 → Bool
  | [], [] => true
  | a :: x, b :: y => if a.toNat = b.toNat then beqL x y else false
  | _, _ => false
def ltL : List UInt8 → List UInt8 → Bool
  | _, [] => false
  | [], _ :: _ => true
  | a :: x, b :: y => if a.toNat < b.toNat then true else if a.toNat = b.toNat then ltL x y else false
def splice (c : List Value) (o : Nat) (vs : List Value) : List Value := c.take o ++ (vs ++ c.drop (o + vs.length))
def sameKey : Value → Value → Option Bool
  | .int k a, .int k' b => if k = k' then some (a == b) else none
  | .string a, .string b => some (beqL a.data.toList b.data.toList)
  | .bool a, .bool b => some (a == b)
  | _, _ => none
def afind (k : Value) : List MapEntry → Nat → Option (Option (Nat × Value))
  | [], _ => some none
  | e :: es, i => match sameKey k e.key with
    | some t => (match t with | true => some (some (i, e.val)) | false => afind k es (i + 1))
    | none => none

def azeros (z : List Value) : Nat → List Value
  | 0 => []
  | n + 1 => z ++ azeros z n
def textOf : List Value → Option (List UInt8)
  | [] => some []
  | .int .u8 n :: r => match textOf r with
    | some l => some (UInt8.ofNat n.toNat :: l)
    | none => none
  | _ => none

/-- Is it known (not 'whatever')? -/
def known : Value → Bool
  | .chan (some _) => false
  | _ => true

def realAr (op : BinOp) (k : IntKind) (x y : Int) : Int :=
  match op with
  | .add => k.wrap (x + y)
  | .sub => k.wrap (x - y)
  | .mul => k.wrap (x * y)
  | .quo => k.wrap (x.tdiv y)
  | .rem => x.tmod y
  | .shl | .shr => realSh op k x y
  | op => realBits op k x y
def Prim.real : Prim where
  ar := realAr
  eq x y := decide (x = y)
  lt x y := decide (x < y)
  le x y := decide (x ≤ y)
  min x y := if y < x then y else x
  max x y := if y > x then y else x
  pos o n s := o + n.toNat * s
  diff h l := h.toNat - l.toNat
  rest c l := c - l.toNat
  seq x y := beqL x.data.toList y.data.toList
  slt x y := ltL x.data.toList y.data.toList
  fits x y := decide (x.size + y.size ≤ 9223372036854775807)
  cat x y := ⟨(x.data.toList ++ y.data.toList).toArray⟩
  slen s := s.size
  sub s l h := ⟨((s.data.toList.drop l.toNat).take (h.toNat - l.toNat)).toArray⟩
  byte s i := (s.data.toList.getD i.toNat 0).toNat
  enc n := Utf8.encode n
  rget c o n := if o + n ≤ c.length then some ((c.drop o).take n) else none
  rget1 c o := c[o]?
  rset c o vs := if o + vs.length ≤ c.length then some (splice c o vs) else none
  find k es := afind k es 0
  mmod es i k v := es.modify i fun e => { e with key := k, val := v }
  mpush es k v c := es ++ [{ key := k, val := v, born := c }]
  merase es i := es.eraseIdx i
  mlen es := es.length
  next c := c + 1
  nat n := n.toNat
  nadd x y := x + y
  nmul x y := x * y
  nle x y := decide (x ≤ y)
  zeros := azeros
  dec s i := Utf8.decode s i
  bytes s := s.data.toList.map fun b => .int .u8 b.toNat
  text l := match textOf l with
    | some l => some ⟨l.toArray⟩
    | none => none
  app x y := x ++ y
  okc l := l.all fun v => known v && v.oneCell'

structure TI where
  desc : TypeDesc
  size : Nat
  bytes : Nat
  zero : Value
  eqs : Bool

structure Tab where
  ty : Nat → Option TI
  ng : Nat
  p : Prim

/-- A type without the names of its fields. -/
def stripF (f : Field) : Field := { name := "", type := f.type, offset := f.offset, embedded := f.embedded, tag := "", pkgPath := "", byteOffset := f.byteOffset }
def strip : TypeDesc → TypeDesc
  | .struct fs => .struct (fs.map stripF)
  | d => d
def fld (t o b : Nat) (e : Bool) : Field := { name := "", type := t, offset := o, embedded := e, tag := "", pkgPath := "", byteOffset := b }
def plainD : TypeDesc → Bool
  | .struct _ => false
  | _ => true
theorem strip_plain {d e : TypeDesc} (h : strip d = e) (hp : plainD e = true) : d = e := by
  cases d <;> first | exact h | (subst h; cases hp)

/-- '==' of this struct goes field by field. -/
def eqFine (P : Program) (t : TypeId) : Bool := (P.fieldsOf t).toList.all (fun f => f.name != "_") && !P.stoodInHeld t && !P.eqGuardType P.depth t

structure TabOK (P : Program) (T : Tab) : Prop where
  prim : T.p = Prim.real
  ty : ∀ t i, T.ty t = some i → (∃ d, P.underlying t = some d ∧ strip d = i.desc) ∧ ∃ info, P.info? t = some info ∧ info.size = i.size ∧ info.bytes = i.bytes ∧ info.zero = some i.zero
  flat : ∀ t i, T.ty t = some i → i.zero.cells.toList.all flat = true ∧ i.zero.cells.size = i.size
  eqs : ∀ t i, T.ty t = some i → i.eqs = true → eqFine P t = true

structure St where
  tmps : List Value
  H : AHeap

def AObj.cells : AObj → Option (List Value)
  | .ro c | .var _ c | .row _ _ c => some c
  | _ => none

def hld (p : Prim) (H : AHeap) (b o n : Nat) : Option (List Value) :=
  match H[b]? with
  | some (.row _ _ c) => p.rget c o n
  | some (.var _ c) => if o + n ≤ c.length then some ((c.drop o).take n) else none
  | some (.ro c) => p.rget c o n
  | _ => none

def hld1 (p : Prim) (H : AHeap) (b o : Nat) : Option Value :=
  match H[b]? with
  | some (.row _ _ c) => p.rget1 c o
  | some (.var _ c) => c[o]?
  | some (.ro c) => p.rget1 c o
  | _ => none

def hst (p : Prim) (H : AHeap) (b o : Nat) (vs : List Value) : Option AHeap :=
  match H[b]? with
  | some (.var ty c) => if o + vs.length ≤ c.length then some (H.set b (.var ty (splice c o vs))) else none
  | some (.row t sz c) => match p.rset c o vs with
    | some c' => some (H.set b (.row t sz c'))
    | none => none
  | _ => none

def TypeDesc.isAgg : TypeDesc → Bool
  | .struct _ | .array _ _ => true
  | _ => false

def apart (T : Tab) (t : TypeId) (cs : List Value) (off : Nat) : Option Value :=
  match T.ty t with
  | some i => if TypeDesc.isAgg i.desc then (if off + i.size ≤ cs.length then some (.agg ((cs.drop off).take i.size).toArray) else none) else cs[off]?
  | none => none

def aload (T : Tab) (H : AHeap) (t : TypeId) (v : Value) : Option Value :=
  match v with
  | .pointer (some ⟨b, o, none⟩) =>
    match T.ty t with
    | some i => if TypeDesc.isAgg i.desc then (match hld T.p H b o i.size with | some l => some (.agg l.toArray) | none => none) else hld1 T.p H b o
    | none => none
  | _ => none

def astore (T : Tab) (H : AHeap) (t : TypeId) (v x : Value) : Option AHeap :=
  match v with
  | .pointer (some ⟨b, o, none⟩) =>
    match T.ty t with
    | some i => if x.cells.size = i.size then (if x.cells.toList.all fun v => known v && v.oneCell' then hst T.p H b o x.cells.toList else none) else none
    | none => none
  | _ => none

abbrev AR := Option (Option Value × AHeap)

def aval (H : AHeap) (v : Value) : AR := some (some v, H)
def aval? (H : AHeap) (v : Option Value) : AR := match v with | some v => some (some v, H) | none => none

def anew (H : AHeap) (o : AObj) (f : Nat → Value) : AR := match H.room with | true => some (some (f H.next), H.push o) | false => none

def abinInt (p : Prim) (op : BinOp) (k : IntKind) (x y : Int) : Option Value :=
  match op with
  | .add | .sub | .mul => some (.int k (p.ar op k x y))
  | .quo | .rem => match p.eq y 0 with
    | true => none
    | false => some (.int k (p.ar op k x y))
  | .and | .or | .xor | .andNot => some (.int k (p.ar op k x y))
  | .eql => some (.bool (p.eq x y))
  | .neq => some (.bool (!p.eq x y))
  | .lss => some (.bool (p.lt x y))
  | .leq => some (.bool (p.le x y))
  | .gtr => some (.bool (p.lt y x))
  | .geq => some (.bool (p.le y x))
  | _ => none

def abinStr (p : Prim) (op : BinOp) (x y : ByteArray) : Option Value :=
  match op with
  | .add => match p.fits x y with
    | true => some (.string (p.cat x y))
    | false => none
  | .eql => some (.bool (p.seq x y))
  | .neq => some (.bool (!p.seq x y))
  | .lss => some (.bool (p.slt x y))
  | .leq => some (.bool (p.slt x y || p.seq x y))
  | .gtr => some (.bool (!(p.slt x y || p.seq x y)))
  | .geq => some (.bool (!p.slt x y))
  | _ => none

/-- '==' of what is no number and no text: against nil; bools. -/
def aeq (d : TypeDesc) (x y : Value) : Option Bool :=
  match d, x, y with
  | .bool, .bool a, .bool b => some (a == b)
  | .pointer _, .pointer none, .pointer b => some b.isNone
  | .pointer _, .pointer (some _), .pointer none => some false
  | .slice _, .slice none _ _, .slice b _ _ => some b.isNone
  | .slice _, .slice (some _) _ _, .slice none _ _ => some false
  | .map _ _, .map none, .map b => some b.isNone
  | .map _ _, .map (some _), .map none => some false
  | .func _ _ _, .nilFunc, .nilFunc => some true
  | .func _ _ _, .nilFunc, .func _ _ _ => some false
  | .func _ _ _, .func _ _ _, .nilFunc => some false
  | .interface _, .nilIface, .iface _ _ => some false
  | .interface _, .iface _ _, .nilIface => some false
  | _, _, _ => none

def aeqFs (T : Tab) (eq : TypeId → Value → Value → Option Bool) (xs ys : List Value) : List Field → Option Bool
  | [] => some true
  | f :: fs => match apart T f.type xs f.offset with
    | some a => match apart T f.type ys f.offset with
      | some b => match eq f.type a b with
        | some r => match r with
          | true => aeqFs T eq xs ys fs
          | false => some false
        | none => none
      | none => none
    | none => none

def aeqIn (T : Tab) : Nat → TypeId → Value → Value → Option Bool
  | 0, _, _, _ => none
  | n + 1, t, x, y => match T.ty t with
    | some i => match i.desc, x, y with
      | .int _, .int k a, .int k' b => if k = k' then some (T.p.eq a b) else none
      | .string, .string a, .string b => some (T.p.seq a b)
      | .struct fs, .agg xs, .agg ys => if i.eqs = true then aeqFs T (aeqIn T n) xs.toList ys.toList fs.toList else none
      | d, x, y => aeq d x y
    | none => none

def abin (T : Tab) (op : BinOp) (t : TypeId) (x y : Value) : Option Value :=
  match x, y with
  | .int k a, .int k' b =>
    match op with
    | .shl | .shr => match T.p.lt b 0 with
      | true => none
      | false => some (.int k (T.p.ar op k a b))
    | op => if k = k' then abinInt T.p op k a b else none
  | .string a, .string b => abinStr T.p op a b
  | .agg a, .agg b => match T.ty t with
    | some i => if i.eqs = true then (match op with
      | .eql => match aeqIn T 8 t (.agg a) (.agg b) with | some r => some (.bool r) | none => none
      | .neq => match aeqIn T 8 t (.agg a) (.agg b) with | some r => some (.bool (!r)) | none => none
      | _ => none) else none
    | none => none
  | x, y =>
    match op with
    | .eql => match T.ty t with
      | some i => match aeq i.desc x y with | some r => some (.bool r) | none => none
      | none => none
    | .neq => match T.ty t with
      | some i => match aeq i.desc x y with | some r => some (.bool (!r)) | none => none
      | none => none
    | _ => none

def aun (p : Prim) (op : UnOp) (x : Value) : Option Value :=
  match op, x with
  | .neg, .int k n => some (.int k (p.ar .sub k 0 n))
  | .xor, .int k n => some (.int k (p.ar .xor k (if k.signed then -1 else k.max) n))
  | .not, .bool b => some (.bool (!b))
  | _, _ => none

def aplaces (T : Tab) : List Field → Option (List (Nat × Nat))
  | [] => some []
  | f :: fs => match T.ty f.type with
    | some j => match aplaces T fs with
      | some r => some ((f.offset, j.size) :: r)
      | none => none
    | none => none

def afill (place : Nat → Option (Nat × Nat)) (cells : List Value) : List (Nat × Value) → Option (List Value)
  | [] => some cells
  | x :: rest => match place x.1 with
    | some os => if known x.2 then (if x.2.cells.size = os.2 then (if os.1 + os.2 ≤ cells.length then afill place (splice cells os.1 x.2.cells.toList) rest else none) else none) else none
    | none => none

def abuild (T : Tab) (t : TypeId) (parts : List (Nat × Value)) : Option Value :=
  match T.ty t with
  | some i => match i.desc with
    | .struct fields =>
      match aplaces T fields.toList with
      | some places => match afill (fun k => places[k]?) i.zero.cells.toList parts with
        | some cells => some (.agg cells.toArray)
        | none => none
      | none => none
    | .array _ e => match T.ty e with
      | some j => match afill (fun n => some (n * j.size, j.size)) i.zero.cells.toList parts with
        | some cells => some (.agg cells.toArray)
        | none => none
      | none => none
    | _ => none
  | none => none

def abuildSlice (T : Tab) (H : AHeap) (t : TypeId) (len : Nat) (parts : List (Nat × Value)) : AR :=
  match T.ty t with
  | some i => match i.desc with
    | .slice e => match T.ty e with
      | some j => if len * j.size ≤ 16777216 then
          (match afill (fun n => some (n * j.size, j.size)) (azeros j.zero.cells.toList len) parts with
            | some cells => anew H (.row e j.size cells) fun n => .slice (some ⟨n, 0, none⟩) len len
            | none => none) else none
      | none => none
    | _ => none
  | none => none

def afieldOf (T : Tab) (t : TypeId) (f : Nat) : Option (Field × Nat) :=
  match T.ty t with
  | some i => match i.desc with
    | .struct fields => match fields[f]? with
      | some x => match T.ty x.type with
        | some j => some (x, j.size)
        | none => none
      | none => none
    | _ => none
  | none => none

def abound (p : Prim) (x : Option Value) (d : Int) (top : Int) : Option Int :=
  match x with
  | none => some d
  | some (.int _ h) => match p.le 0 h with
    | true => match p.le h top with
      | true => some h
      | false => none
    | false => none
  | _ => none

def asub (p : Prim) (len cap : Int) (lo hi : Option Value) : Option (Int × Int) :=
  match abound p hi len cap with
  | some h => match abound p lo 0 h with
    | some l => some (l, h)
    | none => none
  | none => none

def aslice (T : Tab) (H : AHeap) (t : TypeId) (x : Value) (lo hi : Option Value) : Option Value :=
  match T.ty t with
  | some i => match i.desc, x with
    | .string, .string s => match asub T.p (T.p.slen s) (T.p.slen s) lo hi with
      | some (l, h) => some (.string (T.p.sub s l h))
      | none => none
    | .slice e, .slice none len _ => match asub T.p (Int.ofNat len) (Int.ofNat len) lo hi with
      | some _ => match T.ty e with
        | some _ => some (.slice none 0 0)
        | none => none
      | none => none
    | .slice e, .slice (some ⟨b, o, none⟩) len cap => match asub T.p (Int.ofNat len) (Int.ofNat len) lo hi with
      | some (l, h) => match T.ty e with
        | some j => match H[b]? with
          | some (.row _ sz _) => if sz = j.size then some (.slice (some ⟨b, T.p.pos o l j.size, none⟩) (T.p.diff h l) (T.p.rest cap l)) else none
          | some (.ro _) => some (.slice (some ⟨b, T.p.pos o l j.size, none⟩) (T.p.diff h l) (T.p.rest cap l))
          | some (.var _ _) => some (.slice (some ⟨b, T.p.pos o l j.size, none⟩) (T.p.diff h l) (T.p.rest cap l))
          | _ => none
        | none => none
      | none => none
    | .array n e, .pointer (some ⟨b, o, none⟩) => match asub T.p (Int.ofNat n) (Int.ofNat n) lo hi with
      | some (l, h) => match T.ty e with
        | some j => match H[b]? with
          | some (.ro _) => some (.slice (some ⟨b, T.p.pos o l j.size, none⟩) (T.p.diff h l) (T.p.rest n l))
          | some (.var _ _) => some (.slice (some ⟨b, T.p.pos o l j.size, none⟩) (T.p.diff h l) (T.p.rest n l))
          | _ => none
        | none => none
      | none => none
    | _, _ => none
  | none => none

/-- Below a bound. -/
def inR (p : Prim) (n top : Int) : Bool := match p.le 0 n with | true => p.lt n top | false => false

def aindexAddr (T : Tab) (t : TypeId) (x ix : Value) : Option Value :=
  match T.ty t with
  | some i => match i.desc, x, ix with
    | .slice e, .slice (some ⟨b, o, none⟩) len _, .int _ n => match T.ty e with
      | some j => match inR T.p n (Int.ofNat len) with
        | true => some (.pointer (some ⟨b, T.p.pos o n j.size, none⟩))
        | false => none
      | none => none
    | .array len e, .pointer (some ⟨b, o, none⟩), .int _ n => match T.ty e with
      | some j => match inR T.p n (Int.ofNat len) with
        | true => some (.pointer (some ⟨b, T.p.pos o n j.size, none⟩))
        | false => none
      | none => none
    | _, _, _ => none
  | none => none

def aindex (T : Tab) (t : TypeId) (x ix : Value) : Option Value :=
  match T.ty t with
  | some i => match i.desc, x, ix with
    | .string, .string s, .int _ n => match inR T.p n (T.p.slen s) with
      | true => some (.int .u8 (T.p.byte s n))
      | false => none
    | .array len e, .agg cs, .int _ n => match T.ty e with
      | some j => match inR T.p n (Int.ofNat len) with
        | true => apart T e cs.toList (T.p.pos 0 n j.size)
        | false => none
      | none => none
    | _, _, _ => none
  | none => none

/-- Keys: numbers, texts. -/
def keyDesc : TypeDesc → Value → Bool
  | .int _, .int _ _ | .string, .string _ | .bool, .bool _ => true
  | _, _ => false
def amapDesc (T : Tab) (t : TypeId) : Option (TypeDesc × TI) :=
  match T.ty t with
  | some i => match i.desc with
    | .map k e => match T.ty k with
      | some ki => match T.ty e with
        | some ei => some (ki.desc, ei)
        | none => none
      | none => none
    | _ => none
  | none => none

def alookup (T : Tab) (H : AHeap) (t : TypeId) (m k : Value) (ok : Bool) : Option Value :=
  match amapDesc T t with
  | some (kd, ei) => if keyDesc kd k then
      (match m with
      | .map none => some (if ok then .tuple #[ei.zero, .bool false] else ei.zero)
      | .map (some r) => match H[r]? with
        | some (.map es _) => match T.p.find k es with
          | some (some (_, v)) => some (if ok then .tuple #[v, .bool true] else v)
          | some none => some (if ok then .tuple #[ei.zero, .bool false] else ei.zero)
          | none => none
        | _ => none
      | _ => none)
      else none
  | none => none

def amapUpdate (T : Tab) (H : AHeap) (t : TypeId) (m k v : Value) : Option AHeap :=
  match amapDesc T t with
  | some (kd, _) => if keyDesc kd k then
      (match m with
      | .map (some r) => match H[r]? with
        | some (.map es c) => match T.p.find k es with
          | some (some (i, _)) => some (H.set r (.map (T.p.mmod es i k v) c))
          | some none => some (H.set r (.map (T.p.mpush es k v c) (T.p.next c)))
          | none => none
        | _ => none
      | _ => none)
      else none
  | none => none

def amapDelete (T : Tab) (H : AHeap) (t : TypeId) (m k : Value) : Option AHeap :=
  match amapDesc T t with
  | some (kd, _) => if keyDesc kd k then
      (match m with
      | .map none => some H
      | .map (some r) => match H[r]? with
        | some (.map es c) => match T.p.find k es with
          | some (some (i, _)) => some (H.set r (.map (T.p.merase es i) c))
          | some none => some H
          | none => none
        | _ => none
      | _ => none)
      else none
  | none => none

def alen (T : Tab) (H : AHeap) (t : TypeId) (x : Value) : Option Value :=
  match T.ty t with
  | some i => match i.desc, x with
    | .string, .string s => some (.int .i64 (T.p.slen s))
    | .slice _, .slice _ n _ => some (.int .i64 (Int.ofNat n))
    | .map _ _, .map none => some (.int .i64 0)
    | .map _ _, .map (some r) => match H[r]? with
      | some (.map es _) => some (.int .i64 (T.p.mlen es))
      | _ => none
    | _, _ => none
  | none => none

def amin (p : Prim) : List Value → Option Value
  | [.int k x, .int _ y] => some (.int k (p.min x y))
  | [.int k x] => some (.int k x)
  | _ => none
def amax (p : Prim) : List Value → Option Value
  | [.int k x, .int _ y] => some (.int k (p.max x y))
  | [.int k x] => some (.int k x)
  | _ => none

def amakeSlice (T : Tab) (H : AHeap) (t : TypeId) (len cap : Value) : AR :=
  match T.ty t with
  | some i => match i.desc with
    | .slice e => match T.ty e with
      | some j => match len, cap with
        | .int _ l, .int _ c => match T.p.le 0 l with
          | true => match T.p.le l c with
            | true => match T.p.le c 4294967296 with
              | true => if j.bytes ≤ 16384 then anew H (.row e j.size (T.p.zeros j.zero.cells.toList (T.p.nat c))) fun n => .slice (some ⟨n, 0, none⟩) (T.p.nat l) (T.p.nat c) else none
              | false => none
            | false => none
          | false => none
        | _, _ => none
      | none => none
    | _ => none
  | none => none

/-- What is appended: how many, and their cells. -/
def aappended (T : Tab) (H : AHeap) (j : TI) (tx : TypeId) (x : Value) : Option (Nat × List Value) :=
  match T.ty tx with
  | some i => match i.desc, x with
    | .int _, .int _ l => match T.p.le 0 l with
      | true => match T.p.le l 4294967296 with
        | true => some (T.p.nat l, T.p.zeros j.zero.cells.toList (T.p.nat l))
        | false => none
      | false => none
    | .slice _, .slice none 0 0 => some (0, [])
    | .slice _, .slice (some ⟨b, o, none⟩) n _ => match T.p.nle n 0 with
      | true => some (0, [])
      | false => match hld T.p H b o (T.p.nmul n j.size) with
        | some l => some (n, l)
        | none => none
    | .string, .string s => if j.size = 1 then some (T.p.nat (T.p.slen s), T.p.bytes s) else none
    | _, _ => none
  | none => none

def aappend (T : Tab) (H : AHeap) (ts : List TypeId) (s x : Value) : AR :=
  match ts with
  | [t, tx] => match T.ty t with
    | some i => match i.desc with
      | .slice e => match T.ty e with
        | some j => if j.bytes ≤ 16384 then (match aappended T H j tx x with
          | some (n, xs) => match T.p.okc xs with
            | true => match s with
              | .slice none 0 0 => match T.p.nle n 0 with
                | true => aval H (.slice none 0 0)
                | false => match T.p.nle n 1073741824 with
                  | true => anew H (.row e j.size xs) fun k => .slice (some ⟨k, 0, none⟩) n n
                  | false => none
              | .slice (some ⟨b, o, none⟩) len cap => match T.p.nle (T.p.nadd len n) cap with
                | true => match T.p.nle n 0 with
                  | true => aval H (.slice (some ⟨b, o, none⟩) len cap)
                  | false => match hst T.p H b (T.p.nadd o (T.p.nmul len j.size)) xs with
                    | some H1 => some (some (.slice (some ⟨b, o, none⟩) (T.p.nadd len n) cap), H1)
                    | none => none
                | false => match H[b]? with
                  | some (.row e' sz c) => if e' = e then (if sz = j.size ∧ sz ≠ 0 then (match T.p.nle (T.p.nadd len n) 1073741824 with
                    | true => match T.p.nle len 0 with
                      | true => anew (H.set b .dead) (.row e j.size xs) fun k => .slice (some ⟨k, 0, none⟩) n n
                      | false => match T.p.rget c o (T.p.nmul len j.size) with
                        | some old => anew (H.set b .dead) (.row e j.size (T.p.app old xs)) fun k => .slice (some ⟨k, 0, none⟩) (T.p.nadd len n) (T.p.nadd len n)
                        | none => none
                    | false => none) else none) else none
                  | _ => none
              | _ => none
            | false => none
          | none => none) else none
        | none => none
      | _ => none
    | none => none
  | _ => none

def acopy (T : Tab) (H : AHeap) (ts : List TypeId) (d x : Value) : AR :=
  match ts with
  | [t, tx] => match T.ty t with
    | some i => match i.desc with
      | .slice e => match T.ty e with
        | some j => match T.ty tx with
          | some ix => match ix.desc, d, x with
            | .slice _, .slice none 0 0, .slice _ _ _ => aval H (.int .i64 0)
            | .slice _, .slice (some _) _ _, .slice none 0 0 => aval H (.int .i64 0)
            | .slice _, .slice (some ⟨b, o, none⟩) n _, .slice (some ⟨b', o', none⟩) m _ => match T.p.nle (if m ≤ n then m else n) 0 with
              | true => aval H (.int .i64 0)
              | false => match hld T.p H b' o' (T.p.nmul (if m ≤ n then m else n) j.size) with
                | some xs => match T.p.okc xs with
                  | true => match hst T.p H b o xs with
                    | some H1 => some (some (.int .i64 (Int.ofNat (if m ≤ n then m else n))), H1)
                    | none => none
                  | false => none
                | none => none
            | _, _, _ => none
          | none => none
        | none => none
      | _ => none
    | none => none
  | _ => none

def aconvert (T : Tab) (H : AHeap) (src dst : TypeId) (x : Value) : AR :=
  match T.ty src with
  | some is => match T.ty dst with
    | some id => match is.desc, id.desc, x with
      | .int _, .int k, .int _ n => aval H (.int k (T.p.ar .add k n 0))
      | .int _, .string, .int _ n => aval H (.string (T.p.enc n))
      | .string, .string, .string s => aval H (.string s)
      | .slice e, .string, .slice none 0 0 => match T.ty e with
        | some j => match j.desc with
          | .int .u8 => aval H (.string ⟨#[]⟩)
          | .int .i32 => aval H (.string ⟨#[]⟩)
          | _ => none
        | none => none
      | .slice e, .string, .slice (some ⟨b, o, none⟩) n _ => match T.ty e with
        | some j => match j.desc with
          | .int .u8 => match T.p.nle n 0 with
            | true => aval H (.string ⟨#[]⟩)
            | false => match hld T.p H b o n with
              | some l => match T.p.text l with
                | some s => aval H (.string s)
                | none => none
              | none => none
          | _ => none
        | none => none
      | .string, .slice e, .string s => match T.ty e with
        | some j => match j.desc with
          | .int .u8 => anew H (.row e 1 (T.p.bytes s)) fun k => .slice (some ⟨k, 0, none⟩) (T.p.nat (T.p.slen s)) (T.p.nat (T.p.slen s))
          | _ => none
        | none => none
      | .slice _, .slice e, .slice (some ⟨b, o, none⟩) n c => if src = dst then (match T.ty e with
        | some j => match j.desc with
          | .int .u8 => match H[b]? with
            | some (.row _ _ _) => aval H (.slice (some ⟨b, o, none⟩) n c)
            | _ => none
          | _ => none
        | none => none) else none
      | _, _, _ => none
    | none => none
  | none => none

/-- A range begins. -/
def arange (T : Tab) (H : AHeap) (t : TypeId) (x : Value) : AR :=
  match T.ty t with
  | some i => match i.desc, x with
    | .string, .string s => anew H (.strIter s 0) fun n => .pointer (some ⟨n, 0, none⟩)
    | .map _ _, .map none => anew H (.mapIter none 0 #[] 0) fun n => .pointer (some ⟨n, 0, none⟩)
    | .map _ _, .map (some r) => match H[r]? with
      | some (.map _ clock) => anew H (.mapIter (some r) clock #[] clock) fun n => .pointer (some ⟨n, 0, none⟩)
      | _ => none
    | _, _ => none
  | none => none

/-- A range's next round, where just one can come. -/
def anext (T : Tab) (H : AHeap) (x : Value) (isString : Bool) : AR :=
  match x with
  | .pointer (some ⟨r, 0, none⟩) => match H[r]? with
    | some (.strIter s pos) => if isString = true then (match T.p.lt (Int.ofNat pos) (T.p.slen s) with
      | true => match T.p.dec s pos with
        | (c, width) => some (some (.tuple #[.bool true, .int .i64 (Int.ofNat pos), .int .i32 (Int.ofNat c)]), H.set r (.strIter s (pos + width)))
      | false => aval H (.tuple #[.bool false])) else none
    | some (.mapIter none _ _ _) => if isString = true then none else aval H (.tuple #[.bool false])
    | some (.mapIter (some m) since seen last) => if isString = true then none else (match H[m]? with
      | some (.map es clock) => match !seen.isEmpty && !es.isEmpty && es.all (fun e => Nat.ble last e.born) with
        | true => none
        | false => match es.filter (fun e => !seen.contains e.born) with
          | [] => aval H (.tuple #[.bool false])
          | [e] => if e.born < since then some (some (.tuple #[.bool true, e.key, e.val]), H.set r (.mapIter (some m) since (seen.push e.born) clock)) else none
          | _ => none
      | _ => none)
    | _ => none
  | _ => none

/-- The entry at which a range over a map stands. -/
def aentry (H : AHeap) (x : Value) : Option Value :=
  match x with
  | .pointer (some ⟨r, 0, none⟩) => match H[r]? with
    | some (.mapIter (some m) _ seen stepped) => match seen.back? with
      | some stamp => match H[m]? with
        | some (.map es clock) => if clock = stepped then (match es.find? (fun e => Nat.beq e.born stamp) with
          | some e => some (.tuple #[e.key, e.val])
          | none => none) else none
        | _ => none
      | none => none
    | _ => none
  | _ => none

/-- The room of a slice: known at nil alone. -/
def acap (T : Tab) (t : TypeId) (x : Value) : Option Value :=
  match T.ty t with
  | some i => match i.desc, x with
    | .slice _, .slice none 0 0 => some (.int .i64 0)
    | .slice _, .slice (some _) _ _ => some whatever
    | _, _ => none
  | none => none

/-- Built-in functions that only compute, or delete. -/
def abi (T : Tab) (H : AHeap) (b : Builtin) (xs : List Value) (ts : List TypeId) : AR :=
  match b with
  | .len => match xs with
    | [x] => match ts with
      | [t] => aval? H (alen T H t x)
      | _ => none
    | _ => none
  | .cap => match xs with
    | [x] => match ts with
      | [t] => aval? H (acap T t x)
      | _ => none
    | _ => none
  | .min => aval? H (amin T.p xs)
  | .max => aval? H (amax T.p xs)
  | .append => match xs with
    | [s, x] => aappend T H ts s x
    | _ => none
  | .copy => match xs with
    | [s, x] => acopy T H ts s x
    | _ => none
  | .delete => match xs with
    | [m, k] => match ts with
      | t :: _ => match amapDelete T H t m k with
        | some H1 => some (some (.tuple #[]), H1)
        | none => none
      | _ => none
    | _ => none
  | _ => none

/-- The operations that compute, read, write, make: no call of a Go function, no draw. -/
def aop (T : Tab) (H : AHeap) (ρ : Operand → Value) (op : Op) : AR :=
  match op with
  | .move x | .assign x => aval H (ρ x)
  | .pick c a b => match ρ c with
    | .bool t => aval H (match t with | true => ρ a | false => ρ b)
    | _ => none
  | .alloc t => match T.ty t with
    | some i => anew H (.var t i.zero.cells.toList) fun n => .pointer (some ⟨n, 0, none⟩)
    | none => none
  | .box t x => match T.ty t with
    | some _ => if known (ρ x) then anew H (.var t (ρ x).cells.toList) fun n => .pointer (some ⟨n, 0, none⟩) else none
    | none => none
  | .build t parts => aval? H (abuild T t (parts.toList.map fun x => (x.1, ρ x.2)))
  | .buildSlice t len parts => abuildSlice T H t len (parts.toList.map fun x => (x.1, ρ x.2))
  | .load t a => aval? H (aload T H t (ρ a))
  | .store t a x => match astore T H t (ρ a) (ρ x) with
    | some H1 => some (none, H1)
    | none => none
  | .nilCheck x => match ρ x with
    | .pointer (some a) => aval H (.pointer (some a))
    | .slice a l c => aval H (.slice a l c)
    | .map r => aval H (.map r)
    | .func (.func f) a c => aval H (.func (.func f) a c)
    | .iface t v => aval H (.iface t v)
    | _ => none
  | .binOp op t x y _ => aval? H (abin T op t (ρ x) (ρ y))
  | .unOp op _ x => aval? H (aun T.p op (ρ x))
  | .makeInterface t x => match T.ty t with
    | some i => match i.desc with
      | .interface _ => none
      | _ => if known (ρ x) then aval H (.iface t (ρ x)) else none
    | none => none
  | .makeFunc (.func f) a c => aval H (.func (.func f) (a.map ρ) (c.map ρ))
  | .makeSlice t l c => amakeSlice T H t (ρ l) (ρ c)
  | .convert src dst x => aconvert T H src dst (ρ x)
  | .makeMap t none => anew H (.map [] 0) fun n => .map (some n)
  | .slice t x lo hi none => aval? H (aslice T H t (ρ x) (lo.map ρ) (hi.map ρ))
  | .fieldAddr s x f => match ρ x with
    | .pointer (some ⟨b, o, none⟩) => match afieldOf T s f with
      | some (fd, sz) => if sz = 0 then none else aval H (.pointer (some ⟨b, o + fd.offset, none⟩))
      | none => none
    | _ => none
  | .field s x f => match ρ x with
    | .agg cs => match afieldOf T s f with
      | some (fd, _) => aval? H (apart T fd.type cs.toList fd.offset)
      | none => none
    | _ => none
  | .indexAddr t x ix => aval? H (aindexAddr T t (ρ x) (ρ ix))
  | .index t x ix => aval? H (aindex T t (ρ x) (ρ ix))
  | .lookup t m k ok => aval? H (alookup T H t (ρ m) (ρ k) ok)
  | .mapUpdate t m k v => match amapUpdate T H t (ρ m) (ρ k) (ρ v) with
    | some H1 => some (none, H1)
    | none => none
  | .range t x => arange T H t (ρ x)
  | .next x b => anext T H (ρ x) b
  | .entry x => aval? H (aentry H (ρ x))
  | .extract t i => match ρ t with
    | .tuple vs => aval? H vs[i]?
    | _ => none
  | .call c => match c.callee with
    | .builtin b => abi T H b (c.args.toList.map ρ) c.argTypes.toList
    | _ => none
  | _ => none
end Go.Ab
