/-
  The second part of the reckoner: what each operation asks, said of the frame's slots and the heap.
-/
import Derived.Test.YtippdkokbhejmaaVc1
namespace Go.Proofs.Ytippdkokbhejmaa
set_option linter.unusedVariables false
set_option linter.unusedSimpArgs false

structure St where
  env : Nat → Value
  kn : Nat → Option Bool
def upd {α : Type} (f : Nat → α) (d : Nat) (v : α) : Nat → α := fun i => if i = d then v else f i
def St.ev (st : St) : Operand → Value
  | .tmp t => st.env t
  | .const v => v
  | .global g => .pointer (some ⟨g, 0, none⟩)
  | .func f => .func (.func f) #[] #[]
def St.put (st : St) : Option Tmp → Value → Option Bool → St
  | none, _, _ => st
  | some d, v, b => ⟨upd st.env d v, upd st.kn d b⟩
def St.know (st : St) (d : Nat) (b : Bool) : St := ⟨upd st.env d (.bool b), upd st.kn d (some b)⟩
def St.knOp (st : St) : Operand → Option Bool
  | .tmp t => st.kn t
  | .const (.bool b) => some b
  | _ => none
def St.fine (st : St) : Prop := ∀ t b, st.kn t = some b → st.env t = .bool b

/-! ### Loads and stores -/
def ldCells (h : Hp) (a : Addr) : Nat → List Value → Prop → Prop
  | _, [], Q => Q
  | i, v :: r, Q => hcell h (a.add i) = some v ∧ ldCells h a (i + 1) r Q
def ldOk (P : Program) (t : TypeId) : Bool :=
  match P.underlying t, tyOf (zeroOf P t), P.info? t with
  | some (.struct _), .agg l, some i | some (.array ..), .agg l, some i => i.size == l.length
  | some (.struct _), _, _ | some (.array ..), _, _ => false
  | some _, .one _, some _ => true
  | _, _, _ => false
def ldQ (P : Program) (t : TypeId) (v : Value) (h : Hp) (K : Value → Prop) : Prop :=
  match v, ldOk P t with
  | .pointer (some a), true =>
    match tyOf (zeroOf P t) with
    | .one s => ∃ x : s.T, hcell h a = some (s.inj x) ∧ K (s.inj x)
    | .agg l => exL l [] (fun vs => ldCells h a 0 vs (K (.agg vs.toArray)))
  | _, _ => False
def cellOk : Value → Bool
  | .agg _ | .tuple _ => false
  | _ => true
/-- a cell may be written. -/
def StOk (h : Hp) (a : Addr) : Prop := (hcell h a).isSome = true ∧ hfroz h a = false
def stCells (a : Addr) : Nat → List Value → Hp → (Hp → Prop) → Prop
  | _, [], h, K => K h
  | i, v :: r, h, K => match cellOk v with
    | true => StOk h (a.add i) ∧ stCells a (i + 1) r (hset h (a.add i) v) K
    | false => False
def stM (P : Program) (t : TypeId) (v x : Value) (h : Hp) (K : Hp → Prop) : Prop :=
  match v, (P.info? t).map (·.size) == some x.cells.size with
  | .pointer (some a), true => stCells a 0 x.cells.toList h K
  | _, _ => False

/-! ### Addresses and slices -/
def szOf (P : Program) (t : TypeId) : Nat := ((P.info? t).map (·.size)).getD 0
def byOf (P : Program) (t : TypeId) : Nat := ((P.info? t).map (·.bytes)).getD 0
def nilQ (v : Value) (K : Value → Prop) : Prop :=
  match v with
  | .pointer p => ∃ a : Addr, p = some a ∧ K (.pointer (some a))
  | _ => False
def ixQ (P : Program) (t : TypeId) (v i : Value) (K : Value → Prop) : Prop :=
  match P.underlying t, v, i with
  | some (.slice e), .slice base len _, .int _ n =>
    (match (P.info? e).isSome with
    | true => ∃ a : Addr, base = some a ∧ 0 ≤ n ∧ n < (len : Int) ∧ K (.pointer (some (a.add (n.toNat * szOf P e))))
    | false => False)
  | some (.array len e), .pointer (some a), .int _ n =>
    (match (P.info? e).isSome with
    | true => 0 ≤ n ∧ n < (len : Int) ∧ K (.pointer (some (a.add (n.toNat * szOf P e))))
    | false => False)
  | _, _, _ => False
def cutSl (s : Sl) (l h m : Int) (sz : Nat) : Sl :=
  ⟨if m.toNat = l.toNat then s.base else s.base.map (·.add (l.toNat * sz)), h.toNat - l.toNat, m.toNat - l.toNat⟩
def getI : Option Value → Int → (Int → Prop) → Prop
  | none, d, k => k d
  | some (.int _ n), _, k => k n
  | _, _, _ => False
def slQ (P : Program) (t : TypeId) (v : Value) (lo hi mx : Option Value) (K : Value → Prop) : Prop :=
  match P.underlying t, v with
  | some (.slice e), .slice base len cap =>
    (match (P.info? e).isSome, hi, mx with
    | true, none, some _ => False
    | true, _, _ => getI mx cap fun m => getI hi len fun hh => getI lo 0 fun l =>
        0 ≤ l ∧ l ≤ hh ∧ hh ≤ m ∧ m ≤ (cap : Int) ∧ K (Sh.sl.inj (cutSl ⟨base, len, cap⟩ l hh m (szOf P e)))
    | false, _, _ => False)
  | _, _ => False
def pickQ (st : St) (c a b : Operand) (K : Value → Prop) : Prop :=
  match st.knOp c with
  | some true => K (st.ev a)
  | some false => K (st.ev b)
  | none => match st.ev c, st.ev a, st.ev b with
    | .bool x, .bool y, .bool z => K (.bool (bif x then y else z))
    | _, _, _ => False
def nilConst : Operand → Bool
  | .const (.pointer none) | .const (.slice none _ _) => true
  | _ => false
def nextQ (K : Value → Prop) : Next → Prop
  | .value v => K v
  | _ => False
def isNone? {α : Type} (o : Option α) : Bool := o.isNone
def eqNil (P : Program) (t : TypeId) (v c : Value) (K : Bool → Prop) : Prop :=
  match P.underlying t, v, c with
  | some (.pointer _), .pointer p, .pointer none => K (isNone? p)
  | some (.slice _), .slice b _ _, .slice none _ _ => K (isNone? b)
  | _, _, _ => False
/-- structs of numbers and truths, held against each other. -/
def aggEqB : List Value → List Value → Bool
  | .int _ a :: r, .int _ b :: s => (a == b) && aggEqB r s
  | .bool a :: r, .bool b :: s => (a == b) && aggEqB r s
  | _, _ => true
def flatF (P : Program) : List Field → Nat → List Value → List Value → Bool
  | [], _, [], [] => true
  | f :: r, i, x :: xs, y :: ys => decide (f.name ≠ "_") && f.offset == i && (match P.underlying f.type, x, y with
      | some (.int _), .int k _, .int k' _ => decide (k = k')
      | some .bool, .bool _, .bool _ => true
      | _, _, _ => false) && flatF P r (i + 1) xs ys
  | _, _, _, _ => false
def flatOk (P : Program) (t : TypeId) (xs ys : List Value) : Bool :=
  match P.underlying t with
  | some (.struct fs) => flatF P fs.toList 0 xs ys && !(P.stoodInHeld t) && !(P.eqGuardType P.depth t)
  | _ => false
def binQ (P : Program) (o : Oper) (op : BinOp) (t : TypeId) (x y : Operand) (st : St) (h : Hp) (K : Value → Prop) : Prop :=
  match op, st.ev x, st.ev y with
  | .quo, .int k a, .int k' b => if k = k' then b ≠ 0 ∧ K (.int k (iQuo k a b)) else False
  | .rem, .int k a, .int k' b => if k = k' then b ≠ 0 ∧ K (.int k (iRem a b)) else False
  | .shl, .int k a, .int _ b => 0 ≤ b ∧ K (.int k (iShl k a b))
  | .shr, .int k a, .int _ b => 0 ≤ b ∧ K (.int k (iShr k a b))
  | .eql, .agg xs, .agg ys => (match flatOk P t xs.toList ys.toList with | true => K (.bool (aggEqB xs.toList ys.toList)) | false => False)
  | .neq, .agg xs, .agg ys => (match flatOk P t xs.toList ys.toList with | true => K (.bool (!aggEqB xs.toList ys.toList)) | false => False)
  | .eql, vx, vy =>
    if nilConst y = true then eqNil P t vx vy (fun b => K (.bool b))
    else if nilConst x = true then eqNil P t vy vx (fun b => K (.bool b))
    else prun P (execOp st.ev o) h (nextQ K)
  | .neq, vx, vy =>
    if nilConst y = true then eqNil P t vx vy (fun b => K (.bool !b))
    else if nilConst x = true then eqNil P t vy vx (fun b => K (.bool !b))
    else prun P (execOp st.ev o) h (nextQ K)
  | _, _, _ => prun P (execOp st.ev o) h (nextQ K)

/-- the operations that leave the heap alone and ask nothing. -/
def isQ (P : Program) (o : Oper) : Bool :=
  match o.op with
  | .load .. | .nilCheck _ | .indexAddr .. | .slice .. | .pick .. | .move _ | .assign _ | .extract .. | .fieldAddr .. | .field .. | .index .. | .build .. | .unOp .. => true
  | .convert _ dst _ => match P.underlying dst with | some (.int _) => true | _ => false
  | .binOp op t x y _ =>
    (match op with
    | .eql | .neq => match P.underlying t with | some (.pointer _) => nilConst x || nilConst y | _ => true
    | _ => true)
  | .call c => (match c.callee with | .builtin .len | .builtin .cap | .builtin .min | .builtin .max => true | _ => false)
  | _ => false
def opQ (P : Program) (o : Oper) (st : St) (h : Hp) (K : Value → Prop) : Prop :=
  match o.op with
  | .move x | .assign x => K (st.ev x)
  | .load t a => ldQ P t (st.ev a) h K
  | .nilCheck x => nilQ (st.ev x) K
  | .indexAddr t x i => ixQ P t (st.ev x) (st.ev i) K
  | .slice t x lo hi mx => slQ P t (st.ev x) (lo.map st.ev) (hi.map st.ev) (mx.map st.ev) K
  | .pick c a b => pickQ st c a b K
  | .binOp op t x y _ => binQ P o op t x y st h K
  | _ => prun P (execOp st.ev o) h (nextQ K)

/-! ### Calls -/
def okFn (P : Program) (f : FuncId) : Bool :=
  match P.funcs[f]? with
  | some fn => !(fn.name == "runtime.NumGoroutine") && fn.body.isSome
  | none => false
/-- a call comes back, with a value and a heap of which R holds. -/
def HCalls (P : Program) (f : FuncId) (args : Array Value) (h : Hp) (R : Value → Hp → Prop) : Prop :=
  okFn P f = true ∧ ∀ w : World, w.heap = h → Calls P f args w fun e w' => ∃ v, e = .returned v ∧ Same w w' ∧ R v w'.heap
theorem HCalls.mono {P : Program} {f : FuncId} {args : Array Value} {h : Hp} {R R' : Value → Hp → Prop} (H : HCalls P f args h R) (hr : ∀ v h', R v h' → R' v h') : HCalls P f args h R' :=
  ⟨H.1, fun w hw => (H.2 w hw).mono fun _ _ ⟨v, he, hs, hR⟩ => ⟨v, he, hs, hr _ _ hR⟩⟩
def resEx : List TyS → Value → (Value → Prop) → Prop
  | [t], v, K => exTy t (fun x => v = x ∧ K x)
  | ts, v, K => exTys ts [] (fun vs => v = .tuple vs.toArray ∧ K (.tuple vs.toArray))
theorem resEx_spec (ts : List TyS) (v : Value) (K : Value → Prop) (h : resEx ts v K) : K v := by
  unfold resEx at h
  split at h
  · obtain ⟨x, rfl, hk⟩ := exTy_spec _ _ h; exact hk
  · obtain ⟨x, rfl, hk⟩ := exTys_spec _ _ _ h; exact hk
def callM (P : Program) (o : Oper) (f : Value) (args : Array Value) (h : Hp) (K : Value → Hp → Prop) : Prop :=
  match f with
  | .func (.func k) first captured => HCalls P k (first ++ args ++ captured) h (fun v h' => resEx (resTys P o.type) v (fun v' => K v' h'))
  | _ => False

/-! ### Append and make -/
/-- cells that are read, from an address on. -/
def RdC (h : Hp) (b : Option Addr) (l : List Value) : Prop := ∀ i v, l[i]? = some v → ∃ a : Addr, b = some a ∧ hcell h (a.add i) = some v
def stAll (b : Option Addr) (off : Nat) (l : List Value) (h : Hp) (K : Hp → Prop) : Prop :=
  match b with
  | some a => stCells (a.add off) 0 l h K
  | none => K h
def AppC (e sz by_ : Nat) (zc : Array Value) (s x : Sl) (h : Hp) (K : Sl → Hp → Prop) : Prop :=
  ∃ news : List Value, news.length = x.len * sz ∧ RdC h x.base news ∧ (s.len + x.len) * by_ ≤ 140737488355328 ∧ s.len + x.len < 9223372036854775807 ∧
    (s.len + x.len ≤ s.cap → stAll s.base (s.len * sz) news h (fun h' => K ⟨s.base, s.len + x.len, s.cap⟩ h')) ∧
    (s.cap < s.len + x.len → ∃ olds : List Value, olds.length = s.len * sz ∧ RdC h s.base olds ∧
      ∀ c, s.len + x.len ≤ c → c < 9223372036854775808 → K ⟨some ⟨h.size, 0, none⟩, s.len + x.len, c⟩ (h.push (.cells (olds.toArray ++ news.toArray ++ Builtin.zeroCells zc (c - (s.len + x.len))) e (0, 0))))
/-- 'append(s, make([]T, n)...)'. -/
def AppZ (e sz by_ : Nat) (zc : Array Value) (s : Sl) (n : Int) (h : Hp) (K : Sl → Hp → Prop) : Prop :=
  0 ≤ n ∧ (s.len + n.toNat) * by_ ≤ 140737488355328 ∧ s.len + n.toNat < 9223372036854775807 ∧ n.toNat * by_ ≤ 140737488355328 ∧ n < 9223372036854775807 ∧
    (s.len + n.toNat ≤ s.cap → stAll s.base (s.len * sz) (Builtin.zeroCells zc n.toNat).toList h (fun h' => K ⟨s.base, s.len + n.toNat, s.cap⟩ h')) ∧
    (s.cap < s.len + n.toNat → ∃ olds : List Value, olds.length = s.len * sz ∧ RdC h s.base olds ∧
      ∀ c, s.len + n.toNat ≤ c → c < 9223372036854775808 → K ⟨some ⟨h.size, 0, none⟩, s.len + n.toNat, c⟩ (h.push (.cells (olds.toArray ++ Builtin.zeroCells zc n.toNat ++ Builtin.zeroCells zc (c - (s.len + n.toNat))) e (0, 0))))
def zcOf (P : Program) (t : TypeId) : Array Value := (zeroOf P t).cells
/-- an element type that the reckoner knows. -/
def elOk (P : Program) (e : TypeId) : Bool :=
  match P.info? e with
  | some i => (match i.zero with | some z => z.cells.size == i.size && z.cells.all cellOk && decide (0 < i.size) && decide (0 < i.bytes) | none => false)
  | none => false
def appM (P : Program) (t t' : TypeId) (s x : Value) (h : Hp) (K : Value → Hp → Prop) : Prop :=
  match P.underlying t, P.underlying t', s, x with
  | some (.slice e), some (.slice _), .slice b l c, .slice b' l' c' =>
    (match elOk P e with
    | true => AppC e (szOf P e) (byOf P e) (zcOf P e) ⟨b, l, c⟩ ⟨b', l', c'⟩ h (fun r h' => K (Sh.sl.inj r) h')
    | false => False)
  | some (.slice e), some (.int _), .slice b l c, .int _ n =>
    (match elOk P e with
    | true => AppZ e (szOf P e) (byOf P e) (zcOf P e) ⟨b, l, c⟩ n h (fun r h' => K (Sh.sl.inj r) h')
    | false => False)
  | _, _, _, _ => False
def MkC (e by_ : Nat) (zc : Array Value) (l c : Int) (h : Hp) (K : Sl → Hp → Prop) : Prop :=
  0 ≤ l ∧ l ≤ c ∧ c.toNat * by_ ≤ 140737488355328 ∧ c < 9223372036854775807 ∧ K ⟨some ⟨h.size, 0, none⟩, l.toNat, c.toNat⟩ (h.push (.cells (Builtin.zeroCells zc c.toNat) e (0, 0)))
def mkM (P : Program) (t : TypeId) (l c : Value) (h : Hp) (K : Value → Hp → Prop) : Prop :=
  match P.underlying t, l, c with
  | some (.slice e), .int _ l, .int _ c =>
    (match elOk P e with
    | true => MkC e (byOf P e) (zcOf P e) l c h (fun r h' => K (Sh.sl.inj r) h')
    | false => False)
  | _, _, _ => False
/-- two pointers that are one: all that is asked here. -/
def ptrEqM (P : Program) (t : TypeId) (x y : Value) (K : Prop) : Prop :=
  match P.underlying t, x, y with
  | some (.pointer e), .pointer p, .pointer q => (match (P.info? e).isSome with | true => p = q ∧ K | false => False)
  | _, _, _ => False
/-- the mark that a string's bytes bear: one cell behind the block's end. -/
def hstr (h : Hp) (a : Addr) : Hp :=
  match hshape h a.block with
  | some (_, n) => hmark h { block := a.block, off := n } 1
  | none => h
def cvM (P : Program) (src dst : TypeId) (x : Value) (h : Hp) (K : Value → Hp → Prop) : Prop :=
  match P.underlying src, P.underlying dst, x with
  | some (.slice e), some (.slice e'), .slice b l c =>
    (match src == dst, P.underlying e' with
    | true, some (.int .u8) => ∃ a : Addr, b = some a ∧ K (.slice b l c) (hstr h a)
    | _, _ => False)
  | some (.slice e), some .string, .slice b l _ =>
    (match P.underlying e with
    | some (.int .u8) => ∃ bs : List UInt8, bs.length = l ∧ RdC h b (bs.map fun x => .int .u8 (x.toNat : Int)) ∧ K (.string ⟨bs.toArray⟩) h
    | _ => False)
  | _, _, _ => False
def nextM (K : Value → Hp → Prop) : Next → Hp → Prop
  | .value v, h => K v h
  | .skip, h => K undef h
  | _, _ => False
def opM (P : Program) (o : Oper) (st : St) (h : Hp) (K : Value → Hp → Prop) : Prop :=
  match o.op with
  | .store t a x => stM P t (st.ev a) (st.ev x) h (fun h' => K undef h')
  | .makeSlice t l c => mkM P t (st.ev l) (st.ev c) h K
  | .convert src dst x => cvM P src dst (st.ev x) h K
  | .binOp .eql t x y _ => ptrEqM P t (st.ev x) (st.ev y) (K (.bool true) h)
  | .binOp .neq t x y _ => ptrEqM P t (st.ev x) (st.ev y) (K (.bool false) h)
  | .call c =>
    (match c.callee, c.args.toList, c.argTypes.toList with
    | .builtin .append, [s, x], [t, t'] => appM P t t' (st.ev s) (st.ev x) h K
    | .value f, _, _ => callM P o (st.ev f) (c.args.map st.ev) h K
    | _, _, _ => hrun P (execOp st.ev o) h (nextM K))
  | _ => hrun P (execOp st.ev o) h (nextM K)
/-- what an operation asks. -/
def opVC (P : Program) (o : Oper) (st : St) (h : Hp) (K : Value → Hp → Prop) : Prop :=
  match isQ P o with
  | true => opQ P o st h (fun v => K v h)
  | false => opM P o st h K

end Go.Proofs.Ytippdkokbhejmaa
