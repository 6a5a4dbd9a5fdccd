/-
The abstract heap: runs by counting, made quick: frames and heaps as lists of what was put last.
-/
import Derived.Test.YtgeoihombkjgnaaGreatDoorBwAbsX
namespace Go.Abs
open Go
variable {P : Program} {Γ : Gl} {ρ : Ren} {α β : Type}

/-- What was put last under a number. -/
def look {β : Type} (d : β) : List (Nat × β) → Nat → β
  | [], _ => d
  | (k, v) :: l, i => match Nat.beq k i with
    | true => v
    | false => look d l i

structure FH where
  n : Nat
  l : List (Nat × Obj)

def FH.get (h : FH) (i : Nat) : Option Obj := match Nat.blt i h.n with
  | true => some (look tomb h.l i)
  | false => none
def FH.push (h : FH) (o : Obj) : FH := match h with | ⟨n, l⟩ => ⟨n + 1, (n, o) :: l⟩
def FH.set (h : FH) (i : Nat) (o : Obj) : FH := match h with | ⟨n, l⟩ => match Nat.blt i n with
  | true => ⟨n, (i, o) :: l⟩
  | false => ⟨n, l⟩
def FH.toH (h : FH) : H := Array.ofFn (n := h.n) fun i => look tomb h.l i

def cellF? (h : FH) (a : Addr) : Option Value :=
  match h.get a.block with
  | some (.cells c _ _) => if a.spot.isSome then none else c.toList[a.off]?
  | _ => none

def freeF (h : FH) (a : Addr) : Bool :=
  match h.get a.block with
  | some (.cells c _ (lo, hi)) => a.spot.isNone && (c.toList[a.off]?).isSome && lo == 0 && hi == 0
  | _ => false

def setCellF (h : FH) (a : Addr) (v : Value) : FH :=
  match h.get a.block with
  | some (.cells c e f) => h.set a.block (.cells ⟨c.toList.set a.off v⟩ e f)
  | _ => h

def arunF {α : Type} (P : Program) : Sem α → FH → Option (α × FH)
  | .pure a, h => some (a, h)
  | .load m a k, h => if m = .plain then match cellF? h a with | some v => arunF P (k v) h | none => none else none
  | .store m a v k, h => if m = .plain ∧ v.oneCell' = true ∧ freeF h a = true then arunF P k (setCellF h a v) else none
  | .new o k, h => if plainObj o = true then arunF P (k h.n) (h.push o) else
      match o with
      | .cells c e (0, 0) => if c.toList.all Value.oneCell' then arunF P (k h.n) (h.push (.cells c e)) else none
      | _ => none
  | .getObj r k, h => match h.get r with
    | some o => if plainObj o = true then arunF P (k o) h else none
    | none => none
  | .setObj r o k, h => match h.get r with
    | some o' => if sameKind o' o = true then arunF P k (h.set r o) else none
    | none => none
  | .program k, h => arunF P (k P) h
  | .mark m k, h => if m = .noRoom then none else arunF P k h
  | _, _ => none

structure FA where
  n : Nat
  l : List (Nat × Value)
  ds : List Deferred

def FA.get (a : FA) (t : Nat) : Option Value := match Nat.blt t a.n with
  | true => some (look undef a.l t)
  | false => none
def FA.put (a : FA) (dst : Option Tmp) (v : Value) : FA := match a with | ⟨n, l, ds⟩ => match dst with
  | some d => match Nat.blt d n with
    | true => ⟨n, (d, v) :: l, ds⟩
    | false => ⟨n, l, ds⟩
  | none => ⟨n, l, ds⟩
def FA.toA (a : FA) : Act := { tmps := Array.ofFn (n := a.n) fun i => look undef a.l i, defers := a.ds }
def FA.eval (a : FA) : Operand → Value
  | .tmp t => match Nat.blt t a.n with
    | true => look undef a.l t
    | false => undef
  | .const v => v
  | .global g => .pointer (some ⟨g, 0, none⟩)
  | .func f => .func (.func f) #[] #[]

def yieldedF (ops : Array Oper) (a : FA) (j : Nat) : Option Bool :=
  match ((ops[j]?).bind (·.dst)).bind (a.get ·) with
  | some (.bool b) => some b
  | _ => none

inductive FStep where
  | val (v : Value) (h : FH)
  | enter (f : FuncId) (args : Array Value) (h : FH)

def valsF (r : Option (Value × FH)) : Option FStep := r.map fun r => .val r.1 r.2
def unitsF (r : Option (Unit × FH)) : Option FStep := r.map fun r => .val undef r.2

/-- An operation on values without addresses. -/
def cat3 (x : Array Value) (y : List Value) (z : Array Value) : Array Value := ⟨x.toList ++ (y ++ z.toList)⟩

def flatStepF (P : Program) (ev : Operand → Value) (o : Oper) (h : FH) : Option FStep :=
  if (o.op.operands.toList.all fun x => flat (ev x)) = true then
    match prun P (execOp ev o) with
    | some (.value v) => if flat v = true then some (.val v h) else none
    | _ => none
  else none

def asrcF (P : Program) (u : TypeId) (i : TypeInfo) (z : Value) (x : Value) (h : FH) : Option (Nat × Array Value) :=
  match P.underlying u with
  | some .string => match x with
    | .string b => if i.size = 1 then some (b.size, b.data.map fun b => .int .u8 b.toNat) else none
    | _ => none
  | some (.slice _) => match x with
    | .slice none _ _ => some (0, #[])
    | .slice (some a) m _ => (arunF P (Go.loadCells a (m * i.size)) h).map fun r => (m, r.1)
    | _ => none
  | some (.int k0) => match x with
    | .int k n => if k = k0 ∧ 0 ≤ IntKind.i64.wrap n ∧ IntKind.i64.wrap n * (i.bytes : Int) ≤ 2 ^ 48 ∧ (IntKind.i64.wrap n).toNat ≠ 0 then some ((IntKind.i64.wrap n).toNat, Builtin.zeroCells z.cells (IntKind.i64.wrap n).toNat) else none
    | _ => none
  | _ => none

def appendToF (P : Program) (e : TypeId) (i : TypeInfo) (s : Value) (m : Nat) (news : Array Value) (h : FH) : Option (Value × FH) :=
  match s with
  | .slice none 0 0 =>
    if m = 0 then some (.slice none 0 0, h)
    else if m * i.bytes ≤ 140737488355328 then some (.slice (some ⟨h.n, 0, none⟩) m OPEN, h.push (.cells news e)) else none
  | .slice (some a) n c =>
    if c = OPEN then
      match h.get a.block with
      | some (.cells cs e' (0, 0)) =>
        if e' = e then
          if a.off + (n + m) * i.size ≤ cs.size then (arunF P (Go.storeCells (a.add (n * i.size)) news.toList) h).map fun r => (.slice (some a) (n + m) OPEN, r.2)
          else if a.off + n * i.size = cs.size ∧ (n + m) * i.bytes ≤ 140737488355328 then
            some (.slice (some ⟨h.n, 0, none⟩) (n + m) OPEN, (h.set a.block tomb).push (.cells (cs.extract a.off cs.size ++ news) e))
          else none
        else none
      | _ => none
    else if n + m ≤ c then (arunF P (Go.storeCells (a.add (n * i.size)) news.toList) h).map fun r => (.slice (some a) (n + m) c, r.2)
    else if (n + m) * i.bytes ≤ 140737488355328 then
      (arunF P (Go.loadCells a (n * i.size)) h).map fun r => (.slice (some ⟨h.n, 0, none⟩) (n + m) OPEN, h.push (.cells (r.1 ++ news) e))
    else none
  | _ => none

def aappendF (P : Program) (ts : Array TypeId) (args : Array Value) (h : FH) : Option (Value × FH) :=
  match ts.toList, args.toList with
  | [t, u], [s, x] =>
    match P.underlying t with
    | some (.slice e) =>
      match eok P e with
      | some (i, z) =>
        match asrcF P u i z x h with
        | some (m, news) => appendToF P e i s m news h
        | none => none
      | none => none
    | _ => none
  | _, _ => none

def asliceF (P : Program) (t : TypeId) (a : Addr) (n : Nat) (lo hi mx : Option Value) (h : FH) : Option Value :=
  match P.underlying t with
  | some (.slice e) =>
    match P.info? e with
    | none => none
    | some i =>
      match h.get a.block with
      | some (.cells c e' (0, 0)) =>
        if e' = e ∧ 0 < i.size ∧ n ≤ (c.size - a.off) / i.size then
          match arunF P (Instr.sliceBounds true n ((c.size - a.off) / i.size) lo hi mx) h with
          | some ((l, u, m), _) =>
            if mx.isNone then some (.slice (some (a.add (l * i.size))) (u - l) OPEN)
            else if m < OPEN then some (.slice (some (if m = l then a else a.add (l * i.size))) (u - l) (m - l)) else none
          | none => none
        else none
      | _ => none
  | _ => none

def acallF (P : Program) (ev : Operand → Value) (o : Oper) (c : Call) (h : FH) : Option FStep :=
  match c.callee with
  | .builtin .append => valsF (aappendF P c.argTypes (⟨c.args.toList.map ev⟩ : Array Value) h)
  | .builtin .len => match c.argTypes.toList, (c.args.toList.map ev) with
    | [t], [x] => if lenable P t = true then valsF (arunF P (Builtin.len_ #[t] o.type #[x]) h) else none
    | _, _ => none
  | .builtin .copy => match c.argTypes.toList, (c.args.toList.map ev) with
    | [t, u], [x, y] => valsF (arunF P (Builtin.copy_ #[t, u] o.type #[x, y]) h)
    | _, _ => none
  | .builtin .clear => match c.argTypes.toList, (c.args.toList.map ev) with
    | [t], [x] => if sliceZok P t = true ∧ isSlice (x) = true then valsF (arunF P (Builtin.clear_ #[t] o.type #[x]) h) else none
    | _, _ => none
  | .builtin .delete => match c.argTypes.toList, (c.args.toList.map ev) with
    | [t, u], [x, y] => if flat (y) = true then valsF (arunF P (Builtin.delete_ #[t, u] o.type #[x, y]) h) else none
    | _, _ => none
  | .value f => match ev f with
    | .func (.func g) first cap =>
      match P.funcs[g]? with
      | some fn =>
        if fn.body.isSome = true then if fn.name ≠ "runtime.NumGoroutine" then some (.enter g (cat3 first (c.args.toList.map ev) cap) h) else none
        else if (cat3 first (c.args.toList.map ev) cap).all flat = true then
          match prun P (callFunc g (cat3 first (c.args.toList.map ev) cap)) with
          | some (.value v) => if flat v = true then some (.val v h) else none
          | _ => none
        else none
      | none => none
    | _ => none
  | _ => none


def aopF (P : Program) (ev : Operand → Value) (o : Oper) (h : FH) : Option FStep :=
  if (o.op.operands.all okOperand) = true then
    match o.op with
    | .move x | .assign x => some (.val (ev x) h)
    | .pick c x y => match ev c with | .bool b => some (.val (if b = true then ev x else ev y) h) | _ => none
    | .alloc e => if zok P e = true then valsF (arunF P (Instr.alloc e true (.tuple #[])) h) else none
    | .box e x => valsF (arunF P (Instr.box e (ev x)) h)
    | .build t parts => if zok P t = true then valsF (arunF P (Instr.build t (parts.map fun p => (p.1, ev p.2))) h) else none
    | .buildSlice t n parts => if sliceZok P t = true ∧ n < OPEN then valsF (arunF P (Instr.buildSlice t n (parts.map fun p => (p.1, ev p.2))) h) else none
    | .load t x => valsF (arunF P (Instr.loadAt t (ev x)) h)
    | .store t x y => unitsF (arunF P (Instr.storeAt t (ev x) (ev y)) h)
    | .nilCheck x => match ev x with | .pointer (some ad) => some (.val (.pointer (some ad)) h) | _ => none
    | .binOp op t x y _ =>
      if nilish (ev x) (ev y) = true ∧ isEq op = true then valsF (arunF P (do eqGuard op t x y (ev x) (ev y); binOp op t (ev x) (ev y)) h)
      else flatStepF P ev o h
    | .makeInterface t x => valsF (arunF P (Instr.makeInterface t (ev x)) h)
    | .makeFunc fn first cap => match fn with | .func f => some (.val (.func (.func f) (first.map ev) (cap.map ev)) h) | _ => none
    | .makeMap t none => valsF (arunF P (Instr.makeMap t none) h)
    | .makeSlice t l c => if sliceZok P t = true then valsF (arunF P (Instr.makeSlice t (ev l) (ev c)) h) else none
    | .slice t x lo hi mx =>
      if strSlice P t = true then
        match ev x with
        | .slice (some ad) n c =>
          if c = OPEN then (asliceF P t ad n (lo.map ev) (hi.map ev) (mx.map ev) h).map fun v => .val v h
          else valsF (arunF P (Instr.slice t (.slice (some ad) n c) (lo.map ev) (hi.map ev) (mx.map ev)) h)
        | v => valsF (arunF P (Instr.slice t v (lo.map ev) (hi.map ev) (mx.map ev)) h)
      else none
    | .fieldAddr t x f => valsF (arunF P (Instr.fieldAt t (ev x) f) h)
    | .field t x f => valsF (arunF P (Instr.field t (ev x) f) h)
    | .indexAddr t x i => valsF (arunF P (Instr.indexAt t (ev x) (ev i)) h)
    | .index t x i => valsF (arunF P (Instr.index t (ev x) (ev i)) h)
    | .lookup t x k ok => if mapZok P t = true ∧ flat (ev k) = true then valsF (arunF P (Instr.lookup t (ev x) (ev k) ok) h) else none
    | .mapUpdate t m k x | .insert t m k x => if flat (ev k) = true then unitsF (arunF P (Instr.mapUpdate t (ev m) (ev k) (ev x)) h) else none
    | .mapEntry t m k => if mapZok P t = true ∧ flat (ev k) = true then valsF (arunF P (Instr.mapEntry t (ev m) (ev k)) h) else none
    | .entryStore t m s x => unitsF (arunF P (Instr.entryStore t (ev m) (ev s) (ev x)) h)
    | .extract t i => valsF (arunF P (Instr.extract (ev t) i) h)
    | .call c => match acallF P ev o c h with
      | some r => some r
      | none => flatStepF P ev o h
    | .select _ _ => none
    | _ => flatStepF P ev o h
  else none

/-- What goes beyond one cell's arithmetic: strings made of rows, and rows made of strings. -/
def aextF (P : Program) (ev : Operand → Value) (o : Oper) (h : FH) : Option (Value × FH) :=
  match o.op with
  | .convert src dst x =>
    if okOperand x = true then
      match P.underlying src, P.underlying dst, ev x with
      | some .string, some (.slice e), .string s =>
        match eok P e with
        | some (i, z) => if isU8 P e = true ∧ s.size ≤ 140737488355328 ∧ i.size = 1 ∧ sameV z (.int .u8 0) = true then some (.slice (some ⟨h.n, 0, none⟩) s.size OPEN, h.push (.cells (byteCells s) e)) else none
        | none => none
      | some (.slice e), some .string, .slice none 0 0 => if isU8 P e = true then some (.string .empty, h) else none
      | some (.slice e), some .string, .slice (some ad) n _ =>
        if isU8 P e = true then
          match arunF P (Go.loadCells ad n) h with
          | some (cs, _) => if cs.all flat = true then match prun P (bytesLoop cs) with | some v => if flat v = true then some (v, h) else none | none => none else none
          | none => none
        else none
      | _, _, _ => none
    else none
  | _ => none


/-! The common operations, told apart ahead of the run -/
inductive FI where
  | mov (x : Operand)
  | bin (op : BinOp) (x y : Operand)
  | pick (c x y : Operand)
  | len (x : Operand)
  | load (x : Operand)
  | idx (x i : Operand) (n : Nat)
  | call (f : Operand) (args : List Operand)
  | slow

def binOk : BinOp → Bool
  | .add | .sub | .mul | .eql | .neq | .lss | .leq | .gtr | .geq => true
  | _ => false

def binI (op : BinOp) (k : IntKind) (u v : Int) : Value :=
  match op with
  | .add => .int k (k.wrap (u + v))
  | .sub => .int k (k.wrap (u - v))
  | .mul => .int k (k.wrap (u * v))
  | .eql => .bool (u == v)
  | .neq => .bool (u != v)
  | .lss => .bool (u < v)
  | .leq => .bool (u ≤ v)
  | .gtr => .bool (u > v)
  | _ => .bool (u ≥ v)

def fi (P : Program) (o : Oper) : FI :=
  if (o.op.operands.all okOperand) = true then
    match o.op with
    | .move x => .mov x
    | .assign x => .mov x
    | .binOp op _ x y _ => if binOk op = true then .bin op x y else .slow
    | .pick c x y => .pick c x y
    | .load t x => match P.underlying t with | some d => if plainDesc d = true then .load x else .slow | none => .slow
    | .indexAddr t x i => match P.underlying t with
      | some (.slice e) => match P.info? e with | some inf => .idx x i inf.size | none => .slow
      | _ => .slow
    | .call c => match c.callee with
      | .builtin .len => match c.argTypes.toList, c.args.toList with
        | [t], [x] => match P.underlying t with | some (.slice _) => .len x | _ => .slow
        | _, _ => .slow
      | .value f => .call f c.args.toList
      | _ => .slow
    | _ => .slow
  else .slow

def callF (P : Program) (ev : Operand → Value) (args : List Operand) (h : FH) (g : FuncId) (first cap : Array Value) : Option FStep :=
  match P.funcs[g]? with
  | some fn => if fn.body.isSome = true then if fn.name ≠ "runtime.NumGoroutine" then some (.enter g (cat3 first (args.map ev) cap) h) else none else none
  | none => none

def runFI (P : Program) (ev : Operand → Value) (o : Oper) (h : FH) : FI → Option FStep
  | .mov x => some (.val (ev x) h)
  | .bin op x y => match ev x with
    | .int k u => match ev y with
      | .int k' v => if k = k' then some (.val (binI op k u v) h) else none
      | _ => none
    | _ => aopF P ev o h
  | .pick c x y => match ev c with
    | .bool true => some (.val (ev x) h)
    | .bool false => some (.val (ev y) h)
    | _ => none
  | .len x => match ev x with
    | .slice _ n _ => some (.val (.int .i64 n) h)
    | _ => none
  | .load x => match ev x with
    | .pointer (some ad) => match cellF? h ad with
      | some v => some (.val v h)
      | none => none
    | _ => none
  | .idx x i n => match ev x with
    | .slice (some ad) len _ => match ev i with
      | .int _ (.ofNat m) => match Nat.blt m len with
        | true => some (.val (.pointer (some (ad.add (m * n)))) h)
        | false => none
      | _ => none
    | _ => none
  | .call f args => match ev f with
    | .func (.func g) first cap => match callF P ev args h g first cap with
      | some r => some r
      | none => aopF P ev o h
    | _ => none
  | .slow => aopF P ev o h

def ayieldF (ev : Operand → Value) (o : Oper) : Option (Nat × Array Value) :=
  match o.op with
  | .call c => if (o.op.operands.all okOperand) = true then
      match c.callee with
      | .value f => match ev f with
        | .func (.yield l) x y => if x.isEmpty = true ∧ y.isEmpty = true then some (l, (⟨c.args.toList.map ev⟩ : Array Value)) else none
        | _ => none
      | _ => none
    else none
  | _ => none

abbrev CallerF := FuncId → Array Value → FH → Option (Value × FH)

/-- A row of values, numbered. -/
def numbered : Nat → List Value → List (Nat × Value)
  | _, [] => []
  | k, v :: l => (k, v) :: numbered (k + 1) l

def startF (fn : Func) (args : Array Value) : FA := ⟨args.size + (fn.ntmps - args.size), numbered 0 args.toList, []⟩
def bindArgsF (params : Array Tmp) (args tmps : Array Value) : FA := (params.toList.zip args.toList).foldl (fun a (t, v) => a.put (some t) v) ⟨tmps.size, numbered 0 tmps.toList, []⟩
def tmpsF (a : FA) : Array Value := ⟨(List.range a.n).map fun i => look undef a.l i⟩
def markF (a : FA) (n : Nat) : FA := match a with | ⟨m, l, ds⟩ => ⟨m, l, { target := .collected n, args := #[] } :: ds⟩
def loopObjF (n : Nat) (a : FA) (ps : Array Tmp) (assign body : Code) : Obj := .loop { state := .ready, pending := none, fn := 0, tmps := tmpsF a, params := ps, assign, body, defers := n }
def rangeHeapF (h : FH) (a : FA) (ps : Array Tmp) (assign body : Code) : FH := (h.push (.deferred (some []))).push (loopObjF h.n a ps assign body)

def collectF : List Deferred → FH → Option FH
  | [], h => some h
  | d :: ds, h => match d.target with
    | .collected i => match h.get i with
      | some (.deferred (some [])) => collectF ds (h.set i (.deferred none))
      | _ => none
    | _ => none

def resOneF (a : FA) : ResultVar → Sem Value
  | .tmp t => Pure.pure (a.eval (.tmp t))
  | .cell b t => do Go.loadVar t (← Go.asAddr (a.eval (.tmp b)))

def resultsF (fn : Func) (a : FA) : Sem Value := do
  let vs ← fn.results.toList.foldlM (fun bs x => do let b ← resOneF a x; Pure.pure (bs.push b)) #[]
  Pure.pure (if h : vs.size = 1 then vs[0] else .tuple vs)

def leaveF (P : Program) (fn : Func) (a : FA) (h : FH) : Option (Value × FH) := match collectF a.ds h with
  | some h1 => arunF P (resultsF fn a) h1
  | none => none

structure FactF where
  i : Nat
  o : Oper
  v : Value
  a : FA

def FactF.holds (P : Program) (ops : Array Oper) (f : FactF) (h : FH) : Bool :=
  if Region.wanted f.o (yieldedF ops f.a) = true then match runFI P f.a.eval f.o h (fi P f.o) with | some (.val v _) => sameV v f.v | _ => false
  else true

def evOpF (P : Program) (call : CallerF) (o : Oper) (a : FA) (h : FH) : Option (FA × FH) :=
  match runFI P a.eval o h (fi P o) with
  | some (.val v h1) => some (a.put o.dst v, h1)
  | some (.enter f args h1) => if f < YB then match call f args h1 with
    | some (v, h2) => some (a.put o.dst v, h2)
    | none => none
    else none
  | none => none

def evOpsF (P : Program) (γ : Known) (call : CallerF) (ops : Array Oper) : List Oper → FA → FH → Option (FA × FH)
  | [], a, h => some (a, h)
  | o :: l, a, h =>
    if Region.wanted o (yieldedF ops a) = true then
      match evOpF P call o a h with
      | some (a1, h1) => evOpsF P γ call ops l a1 h1
      | none => match aextF P a.eval o h with
        | some (v, h1) => evOpsF P γ call ops l (a.put o.dst v) h1
        | none => match aglob γ o with
          | some v => evOpsF P γ call ops l (a.put o.dst v) h
          | none => match ayieldF a.eval o with
            | some (li, args) => match call (YB + li) args h with
              | some (v, h1) => evOpsF P γ call ops l (a.put o.dst v) h1
              | none => none
            | none => none
    else evOpsF P γ call ops l (a.put o.dst undef) h

def evPlanF (P : Program) (call : CallerF) (ops : Array Oper) : List (Nat × Bool) → List FactF → FA → FH → Option (FA × FH)
  | [], _, a, h => some (a, h)
  | (i, e) :: L, F, a, h =>
    match ops[i]? with
    | none => none
    | some o =>
      if Region.wanted o (yieldedF ops a) = true then
        if e = true then
          match runFI P a.eval o h (fi P o) with
          | some (.val v h1) =>
            if takes o = true then evPlanF P call ops L (if asks o = true then ⟨i, o, v, a⟩ :: F else F) (a.put o.dst v) h
            else if ((h1.get h.n)).any (belowO h.n) = true ∧ (F.all (FactF.holds P ops · h1)) = true then evPlanF P call ops L F (a.put o.dst v) h1
            else none
          | _ => none
        else
          match evOpF P call o a h with
          | some (a1, h1) =>
            if (F.filter fun f => !waits ops i f.i).all (FactF.holds P ops · h1) = true then evPlanF P call ops L (F.filter fun f => !waits ops i f.i) a1 h1 else none
          | none => none
      else if e = true then evPlanF P call ops L (if takes o = true ∧ asks o = true then ⟨i, o, undef, a⟩ :: F else F) (a.put o.dst undef) h
      else if (F.filter fun f => !waits ops i f.i).all (FactF.holds P ops · h) = true then evPlanF P call ops L (F.filter fun f => !waits ops i f.i) (a.put o.dst undef) h
      else none

def evCodeRF (rg : Bool) (P : Program) (γ : Known) (call : CallerF) : Nat → Code → FA → FH → Option (Exit × FA × FH)
  | 0, _, _, _ => none
  | n + 1, c, a, h =>
    match c with
    | .region _ ops false => match evOpsF P γ call ops ops.toList a h with
      | some (a1, h1) => some (.normal, a1, h1)
      | none => none
    | .region _ ops true => if planFits ops = true then match evPlanF P call ops (thePlan ops) [] a h with
      | some (a1, h1) => some (.normal, a1, h1)
      | none => none
      else none
    | .skip | .label _ => some (.normal, a, h)
    | .exit id => some (.exit id, a, h)
    | .ret => some (.ret, a, h)
    | .seq x y => match evCodeRF rg P γ call n x a h with
      | some (.normal, a1, h1) => evCodeRF rg P γ call n y a1 h1
      | r => r
    | .cond c x y => if okOperand c = true then match a.eval c with
        | .bool t => evCodeRF rg P γ call n (if t = true then x else y) a h
        | _ => none
      else none
    | .block id c => match evCodeRF rg P γ call n c a h with
      | some (.exit id', a1, h1) => if id' = id then some (.normal, a1, h1) else some (.exit id', a1, h1)
      | r => r
    | .loop c => match evCodeRF rg P γ call n c a h with
      | some (.normal, a1, h1) => evCodeRF rg P γ call n (.loop c) a1 h1
      | r => r
    | .rangeFunc g ps assign body => if rg = true ∧ okOperand g = true then match a.eval g with
        | .func (.func f) first cap => match P.funcs[f]? with
          | some fn => if f < YB ∧ fn.body.isSome = true ∧ fn.name ≠ "runtime.NumGoroutine" then
              match call f (first ++ #[.func (.yield (h.n + 1)) #[] #[]] ++ cap) (rangeHeapF h a ps assign body) with
              | some (_, h1) => match h1.get (h.n + 1) with
                | some (.loop r) => if r.state = .busy then none else match r.pending with
                  | none => some (.normal, markF a h.n, h1.set (h.n + 1) (doneLoop r))
                  | some c => evCodeRF rg P γ call n c (markF a h.n) (h1.set (h.n + 1) (doneLoop r))
                | _ => none
              | none => none
            else none
          | none => none
        | _ => none
      else none
    | _ => none

/-- A piece of code that holds no range over a function. -/
abbrev evCodeF (P : Program) (γ : Known) (call : CallerF) : Nat → Code → FA → FH → Option (Exit × FA × FH) := evCodeRF false P γ call

/-- A round. -/
def evRoundF (P : Program) (γ : Known) (call : CallerF) (n : Nat) (l : Nat) (args : Array Value) (h : FH) : Option (Value × FH) :=
  match h.get (l) with
  | some (.loop r) => if args.size = r.params.size then match evCodeF P γ call n r.assign (bindArgsF r.params args r.tmps) h with
    | some (.normal, a1, h1) => match h1.get (l) with
      | some (.loop r1) => if r1.state = .ready then match evCodeF P γ call n r.body a1 (h1.set l (.loop { r1 with state := .busy })) with
        | some (e, _, h2) => match jumpOf e with
          | some j => match h2.get (l) with
            | some (.loop r2) => some (.bool j.isNone, h2.set l (endLoopObj r2 j))
            | _ => none
          | none => none
        | none => none
        else none
      | _ => none
    | _ => none
    else none
  | _ => none

def evCallF (P : Program) (γ : Known) (orc : CallerF) : Nat → CallerF
  | 0, _, _, _ => none
  | n + 1, f, args, h =>
    match orc f args h with
    | some r => some r
    | none =>
      if f < YB then match P.funcs[f]? with
      | none => none
      | some fn => match fn.body with
        | none => none
        | some c => match evCodeRF true P γ (evCallF P γ orc n) 1000 c (startF fn args) h with
          | some (.normal, a, h1) | some (.ret, a, h1) => leaveF P fn a h1
          | _ => none
      else evRoundF P γ (evCallF P γ orc n) 1000 (f - YB) args h


end Go.Abs
