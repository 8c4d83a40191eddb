/- The second machine's own steps: what an operation, a piece of code, a call comes to in it (or nothing, where it does not know). -/
import Derived.Test.YtmckaoeofikdaaaLiftA
namespace Go.Proofs.Ytmckaoeofikdaaa.Lift
open Go.RowKit

def pureAt (P : Program) {α : Type} : Sem α → Option α
  | .pure a => some a
  | .program k => pureAt P (k P)
  | .mark _ k => pureAt P k
  | _ => none

/-! ### What is handed on is handed on reckoned out: each of these is 'k x' -/
noncomputable def fNat {β : Type} (n : Nat) (k : Nat → β) : β := Nat.rec (motive := fun _ => β) (k Nat.zero) (fun m _ => k (Nat.succ m)) n
noncomputable def fInt {β : Type} (n : Int) (k : Int → β) : β :=
  match n with
  | .ofNat m => fNat m fun m => k (.ofNat m)
  | .negSucc m => fNat m fun m => k (.negSucc m)
noncomputable def fBool {β : Type} (b : Bool) (k : Bool → β) : β :=
  match b with
  | true => k true
  | false => k false
noncomputable def fAddr {β : Type} (a : Option Addr) (k : Option Addr → β) : β :=
  match a with
  | none => k none
  | some ⟨b, o, s⟩ => fNat b fun b => fNat o fun o => k (some ⟨b, o, s⟩)
noncomputable def fCell {β : Type} (v : Value) (k : Value → β) : β :=
  match v with
  | .int kd n => fInt n fun n => k (.int kd n)
  | .bool b => fBool b fun b => k (.bool b)
  | .float kd n => fNat n fun n => k (.float kd n)
  | .complex kd a b => fNat a fun a => fNat b fun b => k (.complex kd a b)
  | .pointer a => fAddr a fun a => k (.pointer a)
  | .slice a n c => fAddr a fun a => fNat n fun n => fNat c fun c => k (.slice a n c)
  | v => k v
noncomputable def fCells {β : Type} (l : List Value) : (List Value → β) → β :=
  List.rec (motive := fun _ => (List Value → β) → β) (fun k => k []) (fun v _ ih k => fCell v fun v => ih fun r => k (v :: r)) l
noncomputable def fVal2 {β : Type} (v : Value) (k : Value → β) : β :=
  match v with
  | .agg cs => fCells cs.toList fun l => k (.agg l.toArray)
  | v => fCell v k
noncomputable def fVals {β : Type} (l : List Value) : (List Value → β) → β :=
  List.rec (motive := fun _ => (List Value → β) → β) (fun k => k []) (fun v _ ih k => fVal2 v fun v => ih fun r => k (v :: r)) l
noncomputable def fVal {β : Type} (v : Value) (k : Value → β) : β :=
  match v with
  | .int kd n => fInt n fun n => k (.int kd n)
  | .bool b => fBool b fun b => k (.bool b)
  | .float kd n => fNat n fun n => k (.float kd n)
  | .complex kd a b => fNat a fun a => fNat b fun b => k (.complex kd a b)
  | .pointer a => fAddr a fun a => k (.pointer a)
  | .slice a n c => fAddr a fun a => fNat n fun n => fNat c fun c => k (.slice a n c)
  | .agg cs => fCells cs.toList fun l => k (.agg l.toArray)
  | .tuple cs => fVals cs.toList fun l => k (.tuple l.toArray)
  | v => k v
noncomputable def fSet {α β : Type} (l : List α) : Nat → α → (List α → β) → β :=
  List.rec (motive := fun _ => Nat → α → (List α → β) → β) (fun _ _ k => k [])
    (fun x r ih d v k => Nat.rec (motive := fun _ => β) (k (v :: r)) (fun d _ => ih d v fun r => k (x :: r)) d) l
noncomputable def fSnoc {α β : Type} (l r : List α) : (List α → β) → β :=
  List.rec (motive := fun _ => (List α → β) → β) (fun k => k r) (fun x _ ih k => ih fun l => k (x :: l)) l
theorem fNat_eq {β : Type} (n : Nat) (k : Nat → β) : fNat n k = k n := by cases n <;> rfl
theorem fInt_eq {β : Type} (n : Int) (k : Int → β) : fInt n k = k n := by cases n <;> simp only [fInt, fNat_eq]
theorem fBool_eq {β : Type} (b : Bool) (k : Bool → β) : fBool b k = k b := by cases b <;> rfl
theorem fAddr_eq {β : Type} (a : Option Addr) (k : Option Addr → β) : fAddr a k = k a := by
  cases a with
  | none => rfl
  | some a => cases a; simp only [fAddr, fNat_eq]
theorem fCell_eq {β : Type} (v : Value) (k : Value → β) : fCell v k = k v := by
  cases v <;> simp only [fCell, fNat_eq, fInt_eq, fBool_eq, fAddr_eq]
theorem fCells_eq {β : Type} (l : List Value) (k : List Value → β) : fCells l k = k l := by
  induction l generalizing k with
  | nil => rfl
  | cons v r ih =>
    show fCell v (fun v => fCells r fun r => k (v :: r)) = _
    rw [fCell_eq]; exact ih _
theorem fVal2_eq {β : Type} (v : Value) (k : Value → β) : fVal2 v k = k v := by
  cases v <;> simp only [fVal2, fCell_eq, fCells_eq, Array.toArray_toList]
theorem fVals_eq {β : Type} (l : List Value) (k : List Value → β) : fVals l k = k l := by
  induction l generalizing k with
  | nil => rfl
  | cons v r ih =>
    show fVal2 v (fun v => fVals r fun r => k (v :: r)) = _
    rw [fVal2_eq]; exact ih _
theorem fVal_eq {β : Type} (v : Value) (k : Value → β) : fVal v k = k v := by
  cases v <;> simp only [fVal, fNat_eq, fInt_eq, fBool_eq, fAddr_eq, fCells_eq, fVals_eq, Array.toArray_toList]
theorem fSet_eq {α β : Type} (l : List α) (d : Nat) (v : α) (k : List α → β) : fSet l d v k = k (l.set d v) := by
  induction l generalizing d k with
  | nil => rfl
  | cons x r ih =>
    cases d with
    | zero => rfl
    | succ d => exact ih d _
theorem fSnoc_eq {α β : Type} (l r : List α) (k : List α → β) : fSnoc l r k = k (l ++ r) := by
  induction l generalizing k with
  | nil => rfl
  | cons x l ih => exact ih _

noncomputable def nth {α : Type} (l : List α) : Nat → Option α :=
  List.rec (motive := fun _ => Nat → Option α) (fun _ => none) (fun x _ ih i => Nat.rec (motive := fun _ => Option α) (some x) (fun i _ => ih i) i) l
noncomputable def dropN {α : Type} (l : List α) : Nat → List α :=
  List.rec (motive := fun _ => Nat → List α) (fun _ => []) (fun x r ih i => Nat.rec (motive := fun _ => List α) (x :: r) (fun i _ => ih i) i) l
noncomputable def takeN {α β : Type} (l : List α) : Nat → (List α → Option β) → Option β :=
  List.rec (motive := fun _ => Nat → (List α → Option β) → Option β) (fun n k => Nat.rec (motive := fun _ => Option β) (k []) (fun _ _ => none) n)
    (fun x _ ih n k => Nat.rec (motive := fun _ => Option β) (k []) (fun n _ => ih n fun r => k (x :: r)) n) l
/-- A row, some of its cells written anew. -/
noncomputable def fRow {β : Type} (l : List Value) : Nat → List Value → (List Value → Option β) → Option β :=
  List.rec (motive := fun _ => Nat → List Value → (List Value → Option β) → Option β) (fun _ vs k => match vs with
      | [] => k []
      | _ :: _ => none)
    (fun x r ih off vs k => Nat.rec (motive := fun _ => Option β) (match vs with
      | [] => k (x :: r)
      | v :: vs => ih 0 vs fun r => k (v :: r)) (fun off _ => ih off vs fun r => k (x :: r)) off) l
theorem nth_eq {α : Type} (l : List α) : ∀ i, nth l i = l[i]? := by
  induction l with
  | nil => intro i; rfl
  | cons x l ih =>
    intro i
    cases i with
    | zero => rfl
    | succ i => exact ih i
theorem dropN_eq {α : Type} (l : List α) : ∀ i, dropN l i = l.drop i := by
  induction l with
  | nil => intro i; simp [dropN]
  | cons x l ih =>
    intro i
    cases i with
    | zero => rfl
    | succ i => exact ih i
theorem takeN_eq {α β : Type} (l : List α) : ∀ (n : Nat) (k : List α → Option β), takeN l n k = if n ≤ l.length then k (l.take n) else none := by
  induction l with
  | nil =>
    intro n k
    cases n with
    | zero => rfl
    | succ n => rfl
  | cons x l ih =>
    intro n k
    cases n with
    | zero => rfl
    | succ n =>
      show takeN l n (fun r => k (x :: r)) = _
      rw [ih]
      simp

/-! ### A frame: its slots as a tree -/
inductive Tr where
  | nil
  | nd (v : Value) (l r : Tr)
noncomputable def Tr.get (t : Tr) : Nat → Value :=
  Tr.rec (motive := fun _ => Nat → Value) (fun _ => undef)
    (fun v _ _ gl gr i => Nat.rec (motive := fun _ => Value) v (fun i _ => Nat.rec (motive := fun _ => Value) (gl (Nat.div i (nat_lit 2))) (fun _ _ => gr (Nat.div i (nat_lit 2))) (Nat.mod i (nat_lit 2))) i) t
noncomputable def Tr.fPutNil {β : Type} (fuel : Nat) : Nat → Value → (Tr → β) → β :=
  Nat.rec (motive := fun _ => Nat → Value → (Tr → β) → β) (fun _ _ k => k .nil)
    (fun _ ih i v k => Nat.rec (motive := fun _ => β) (k (.nd v .nil .nil))
      (fun i _ => Nat.rec (motive := fun _ => β) (ih (Nat.div i (nat_lit 2)) v fun l => k (.nd undef l .nil)) (fun _ _ => ih (Nat.div i (nat_lit 2)) v fun r => k (.nd undef .nil r)) (Nat.mod i (nat_lit 2))) i) fuel
noncomputable def Tr.fPut {β : Type} (t : Tr) : Nat → Value → (Tr → β) → β :=
  Tr.rec (motive := fun _ => Nat → Value → (Tr → β) → β) (fun i v k => Tr.fPutNil 20 i v k)
    (fun u l r pl pr i v k => Nat.rec (motive := fun _ => β) (k (.nd v l r))
      (fun i _ => Nat.rec (motive := fun _ => β) (pl (Nat.div i (nat_lit 2)) v fun l => k (.nd u l r)) (fun _ _ => pr (Nat.div i (nat_lit 2)) v fun r => k (.nd u l r)) (Nat.mod i (nat_lit 2))) i) t
structure Fr where
  n : Nat
  t : Tr
noncomputable def Fr.get (l : Fr) (i : Nat) : Value := Fr.rec (motive := fun _ => Value) (fun _ t => t.get i) l

noncomputable def evalL (l : Fr) : Operand → Option Value
  | .tmp t => some (l.get t)
  | .const v => if no3 v then some v else none
  | .func f => some (.func (.func f) #[] #[])
  | .global _ => none

noncomputable def Fr.fPut {β : Type} (l : Fr) (d : Nat) (v : Value) (k : Fr → β) : β :=
  Fr.rec (motive := fun _ => β) (fun n t => bif Nat.ble (Nat.succ d) n then t.fPut d v fun t => k ⟨n, t⟩ else k ⟨n, t⟩) l
noncomputable def fPut {β : Type} (l : Fr) (dst : Option Tmp) (v : Value) (k : Fr → β) : β :=
  match dst with
  | some d => fVal v fun v => l.fPut d v k
  | none => k l
noncomputable def fPuts {β : Type} (l : Fr) (i : Nat) (vs : List Value) (k : Fr → β) : β :=
  match vs with
  | [] => k l
  | v :: vs => fVal v fun v => l.fPut i v fun l => fPuts l (i + 1) vs k

noncomputable def litAt (l : Fr) (x : Operand) : Value := (evalL l x).getD undef
noncomputable def isLit (l : Fr) (x : Operand) : Bool :=
  match evalL l x with
  | some v => no3 v
  | none => false

noncomputable def noSel : Op → Bool
  | .select _ _ => false
  | _ => true

/-- What needs no memory: all operands without addresses: the model's own operation. -/
noncomputable def aPure (P : Program) (l : Fr) (o : Oper) : Option Value :=
  if noSel o.op && o.op.operands.toList.all (isLit l) then
    match pureAt P (execOp (litAt l) o) with
    | some (.value v) => if no3 v then some v else none
    | _ => none
  else none

noncomputable def rowT (P : Program) (t : TypeId) : Option Bool :=
  match P.underlying t with
  | some d => some d.isRow
  | none => none
noncomputable def szT (P : Program) (t : TypeId) : Option Nat := (P.info? t).map (·.size)

noncomputable def aPart (P : Program) (t : TypeId) (cs : Array Value) (off : Nat) : Option Value :=
  match rowT P t with
  | some true =>
    match szT P t with
    | some n => some (.agg (cs.extract off (off + n)))
    | none => none
  | some false =>
    match cs[off]? with
    | some v => if isCell v then some v else none
    | none => none
  | none => none

noncomputable def isPtr : Value → Bool
  | .pointer _ => true
  | _ => false

noncomputable def aPick (l : Fr) (c x y : Operand) : Option Value :=
  match evalL l c, evalL l x, evalL l y with
  | some (.bool b), some u, some v => some (if b then u else v)
  | _, _, _ => none
noncomputable def aExtract (l : Fr) (t : Operand) (i : Nat) : Option Value :=
  match evalL l t with
  | some (.tuple vs) =>
    match vs[i]? with
    | some v => if isTup v then none else some v
    | none => none
  | _ => none
noncomputable def aField (P : Program) (l : Fr) (t : TypeId) (x : Operand) (f : Nat) : Option Value :=
  match evalL l x, P.underlying t with
  | some (.agg cs), some (.struct fields) =>
    match fields[f]? with
    | some fd => aPart P fd.type cs fd.offset
    | none => none
  | _, _ => none
noncomputable def aIndex (P : Program) (l : Fr) (t : TypeId) (x ix : Operand) : Option Value :=
  match evalL l x, evalL l ix, P.underlying t with
  | some (.agg cs), some (.int _ i), some (.array len e) =>
    match szT P e with
    | some n => if 0 ≤ i ∧ i < len then aPart P e cs (i.toNat * n) else none
    | none => none
  | _, _, _ => none
noncomputable def evalAll (l : Fr) : List Operand → Option (List Value)
  | [] => some []
  | x :: r =>
    match evalL l x, evalAll l r with
    | some v, some vs => some (v :: vs)
    | _, _ => none
noncomputable def aMakeFunc (l : Fr) (fn : Fn) (first captured : Array Operand) : Option Value :=
  match fn with
  | .func f =>
    if first.isEmpty then
      match evalAll l captured.toList with
      | some vs => if vs.all isPtr then some (.func (.func f) #[] vs.toArray) else none
      | none => none
    else none
  | _ => none
noncomputable def aLen (P : Program) (l : Fr) (args : Array Operand) (argTypes : Array TypeId) : Option Value :=
  match args.toList, argTypes.toList with
  | [x], [t] =>
    match evalL l x, P.underlying t with
    | some (.slice (some _) n _), some (.slice _) => some (.int .i64 n)
    | _, _ => none
  | _, _ => none
/-! ### A quicker road for a few numbers -/
abbrev Tab2 := List (Nat × List (Nat × Nat))
noncomputable def find1 (y : Nat) : List (Nat × Nat) → Option Nat
  | [] => none
  | (b, z) :: r => bif Nat.beq y b then some z else find1 y r
noncomputable def find2 (x y : Nat) : Tab2 → Option Nat
  | [] => none
  | (a, row) :: r => bif Nat.beq x a then find1 y row else find2 x y r
def tabAdd : Tab2 := [(0, [(0, 0), (9223372036854775808, 0), (4607182418800017408, 4607182418800017408), (13830554455654793216, 13830554455654793216), (4602678819172646912, 4602678819172646912), (13826050856027422720, 13826050856027422720), (4598175219545276416, 4598175219545276416), (13821547256400052224, 13821547256400052224), (4604930618986332160, 4604930618986332160), (13828302655841107968, 13828302655841107968)]),
  (9223372036854775808, [(0, 0), (9223372036854775808, 9223372036854775808), (4607182418800017408, 4607182418800017408), (13830554455654793216, 13830554455654793216), (4602678819172646912, 4602678819172646912), (13826050856027422720, 13826050856027422720), (4598175219545276416, 4598175219545276416), (13821547256400052224, 13821547256400052224), (4604930618986332160, 4604930618986332160), (13828302655841107968, 13828302655841107968)]),
  (4607182418800017408, [(0, 4607182418800017408), (9223372036854775808, 4607182418800017408), (4607182418800017408, 4611686018427387904), (13830554455654793216, 0), (4602678819172646912, 4609434218613702656), (13826050856027422720, 4602678819172646912), (4598175219545276416, 4608308318706860032), (13821547256400052224, 4604930618986332160), (4604930618986332160, 4610560118520545280), (13828302655841107968, 4598175219545276416)]),
  (13830554455654793216, [(0, 13830554455654793216), (9223372036854775808, 13830554455654793216), (4607182418800017408, 0), (13830554455654793216, 13835058055282163712), (4602678819172646912, 13826050856027422720), (13826050856027422720, 13832806255468478464), (4598175219545276416, 13828302655841107968), (13821547256400052224, 13831680355561635840), (4604930618986332160, 13821547256400052224), (13828302655841107968, 13833932155375321088)]),
  (4602678819172646912, [(0, 4602678819172646912), (9223372036854775808, 4602678819172646912), (4607182418800017408, 4609434218613702656), (13830554455654793216, 13826050856027422720), (4602678819172646912, 4607182418800017408), (13826050856027422720, 0), (4598175219545276416, 4604930618986332160), (13821547256400052224, 4598175219545276416), (4604930618986332160, 4608308318706860032), (13828302655841107968, 13821547256400052224)]),
  (13826050856027422720, [(0, 13826050856027422720), (9223372036854775808, 13826050856027422720), (4607182418800017408, 4602678819172646912), (13830554455654793216, 13832806255468478464), (4602678819172646912, 0), (13826050856027422720, 13830554455654793216), (4598175219545276416, 13821547256400052224), (13821547256400052224, 13828302655841107968), (4604930618986332160, 4598175219545276416), (13828302655841107968, 13831680355561635840)]),
  (4598175219545276416, [(0, 4598175219545276416), (9223372036854775808, 4598175219545276416), (4607182418800017408, 4608308318706860032), (13830554455654793216, 13828302655841107968), (4602678819172646912, 4604930618986332160), (13826050856027422720, 13821547256400052224), (4598175219545276416, 4602678819172646912), (13821547256400052224, 0), (4604930618986332160, 4607182418800017408), (13828302655841107968, 13826050856027422720)]),
  (13821547256400052224, [(0, 13821547256400052224), (9223372036854775808, 13821547256400052224), (4607182418800017408, 4604930618986332160), (13830554455654793216, 13831680355561635840), (4602678819172646912, 4598175219545276416), (13826050856027422720, 13828302655841107968), (4598175219545276416, 0), (13821547256400052224, 13826050856027422720), (4604930618986332160, 4602678819172646912), (13828302655841107968, 13830554455654793216)]),
  (4604930618986332160, [(0, 4604930618986332160), (9223372036854775808, 4604930618986332160), (4607182418800017408, 4610560118520545280), (13830554455654793216, 13821547256400052224), (4602678819172646912, 4608308318706860032), (13826050856027422720, 4598175219545276416), (4598175219545276416, 4607182418800017408), (13821547256400052224, 4602678819172646912), (4604930618986332160, 4609434218613702656), (13828302655841107968, 0)]),
  (13828302655841107968, [(0, 13828302655841107968), (9223372036854775808, 13828302655841107968), (4607182418800017408, 4598175219545276416), (13830554455654793216, 13833932155375321088), (4602678819172646912, 13821547256400052224), (13826050856027422720, 13831680355561635840), (4598175219545276416, 13826050856027422720), (13821547256400052224, 13830554455654793216), (4604930618986332160, 0), (13828302655841107968, 13832806255468478464)])]
def tabSub : Tab2 := [(0, [(0, 0), (9223372036854775808, 0), (4607182418800017408, 13830554455654793216), (13830554455654793216, 4607182418800017408), (4602678819172646912, 13826050856027422720), (13826050856027422720, 4602678819172646912), (4598175219545276416, 13821547256400052224), (13821547256400052224, 4598175219545276416), (4604930618986332160, 13828302655841107968), (13828302655841107968, 4604930618986332160)]),
  (9223372036854775808, [(0, 9223372036854775808), (9223372036854775808, 0), (4607182418800017408, 13830554455654793216), (13830554455654793216, 4607182418800017408), (4602678819172646912, 13826050856027422720), (13826050856027422720, 4602678819172646912), (4598175219545276416, 13821547256400052224), (13821547256400052224, 4598175219545276416), (4604930618986332160, 13828302655841107968), (13828302655841107968, 4604930618986332160)]),
  (4607182418800017408, [(0, 4607182418800017408), (9223372036854775808, 4607182418800017408), (4607182418800017408, 0), (13830554455654793216, 4611686018427387904), (4602678819172646912, 4602678819172646912), (13826050856027422720, 4609434218613702656), (4598175219545276416, 4604930618986332160), (13821547256400052224, 4608308318706860032), (4604930618986332160, 4598175219545276416), (13828302655841107968, 4610560118520545280)]),
  (13830554455654793216, [(0, 13830554455654793216), (9223372036854775808, 13830554455654793216), (4607182418800017408, 13835058055282163712), (13830554455654793216, 0), (4602678819172646912, 13832806255468478464), (13826050856027422720, 13826050856027422720), (4598175219545276416, 13831680355561635840), (13821547256400052224, 13828302655841107968), (4604930618986332160, 13833932155375321088), (13828302655841107968, 13821547256400052224)]),
  (4602678819172646912, [(0, 4602678819172646912), (9223372036854775808, 4602678819172646912), (4607182418800017408, 13826050856027422720), (13830554455654793216, 4609434218613702656), (4602678819172646912, 0), (13826050856027422720, 4607182418800017408), (4598175219545276416, 4598175219545276416), (13821547256400052224, 4604930618986332160), (4604930618986332160, 13821547256400052224), (13828302655841107968, 4608308318706860032)]),
  (13826050856027422720, [(0, 13826050856027422720), (9223372036854775808, 13826050856027422720), (4607182418800017408, 13832806255468478464), (13830554455654793216, 4602678819172646912), (4602678819172646912, 13830554455654793216), (13826050856027422720, 0), (4598175219545276416, 13828302655841107968), (13821547256400052224, 13821547256400052224), (4604930618986332160, 13831680355561635840), (13828302655841107968, 4598175219545276416)]),
  (4598175219545276416, [(0, 4598175219545276416), (9223372036854775808, 4598175219545276416), (4607182418800017408, 13828302655841107968), (13830554455654793216, 4608308318706860032), (4602678819172646912, 13821547256400052224), (13826050856027422720, 4604930618986332160), (4598175219545276416, 0), (13821547256400052224, 4602678819172646912), (4604930618986332160, 13826050856027422720), (13828302655841107968, 4607182418800017408)]),
  (13821547256400052224, [(0, 13821547256400052224), (9223372036854775808, 13821547256400052224), (4607182418800017408, 13831680355561635840), (13830554455654793216, 4604930618986332160), (4602678819172646912, 13828302655841107968), (13826050856027422720, 4598175219545276416), (4598175219545276416, 13826050856027422720), (13821547256400052224, 0), (4604930618986332160, 13830554455654793216), (13828302655841107968, 4602678819172646912)]),
  (4604930618986332160, [(0, 4604930618986332160), (9223372036854775808, 4604930618986332160), (4607182418800017408, 13821547256400052224), (13830554455654793216, 4610560118520545280), (4602678819172646912, 4598175219545276416), (13826050856027422720, 4608308318706860032), (4598175219545276416, 4602678819172646912), (13821547256400052224, 4607182418800017408), (4604930618986332160, 0), (13828302655841107968, 4609434218613702656)]),
  (13828302655841107968, [(0, 13828302655841107968), (9223372036854775808, 13828302655841107968), (4607182418800017408, 13833932155375321088), (13830554455654793216, 4598175219545276416), (4602678819172646912, 13831680355561635840), (13826050856027422720, 13821547256400052224), (4598175219545276416, 13830554455654793216), (13821547256400052224, 13826050856027422720), (4604930618986332160, 13832806255468478464), (13828302655841107968, 0)])]
def tabMul : Tab2 := [(0, [(0, 0), (9223372036854775808, 9223372036854775808), (4607182418800017408, 0), (13830554455654793216, 9223372036854775808), (4602678819172646912, 0), (13826050856027422720, 9223372036854775808), (4598175219545276416, 0), (13821547256400052224, 9223372036854775808), (4604930618986332160, 0), (13828302655841107968, 9223372036854775808)]),
  (9223372036854775808, [(0, 9223372036854775808), (9223372036854775808, 0), (4607182418800017408, 9223372036854775808), (13830554455654793216, 0), (4602678819172646912, 9223372036854775808), (13826050856027422720, 0), (4598175219545276416, 9223372036854775808), (13821547256400052224, 0), (4604930618986332160, 9223372036854775808), (13828302655841107968, 0)]),
  (4607182418800017408, [(0, 0), (9223372036854775808, 9223372036854775808), (4607182418800017408, 4607182418800017408), (13830554455654793216, 13830554455654793216), (4602678819172646912, 4602678819172646912), (13826050856027422720, 13826050856027422720), (4598175219545276416, 4598175219545276416), (13821547256400052224, 13821547256400052224), (4604930618986332160, 4604930618986332160), (13828302655841107968, 13828302655841107968)]),
  (13830554455654793216, [(0, 9223372036854775808), (9223372036854775808, 0), (4607182418800017408, 13830554455654793216), (13830554455654793216, 4607182418800017408), (4602678819172646912, 13826050856027422720), (13826050856027422720, 4602678819172646912), (4598175219545276416, 13821547256400052224), (13821547256400052224, 4598175219545276416), (4604930618986332160, 13828302655841107968), (13828302655841107968, 4604930618986332160)]),
  (4602678819172646912, [(0, 0), (9223372036854775808, 9223372036854775808), (4607182418800017408, 4602678819172646912), (13830554455654793216, 13826050856027422720), (4602678819172646912, 4598175219545276416), (13826050856027422720, 13821547256400052224), (4598175219545276416, 4593671619917905920), (13821547256400052224, 13817043656772681728), (4604930618986332160, 4600427019358961664), (13828302655841107968, 13823799056213737472)]),
  (13826050856027422720, [(0, 9223372036854775808), (9223372036854775808, 0), (4607182418800017408, 13826050856027422720), (13830554455654793216, 4602678819172646912), (4602678819172646912, 13821547256400052224), (13826050856027422720, 4598175219545276416), (4598175219545276416, 13817043656772681728), (13821547256400052224, 4593671619917905920), (4604930618986332160, 13823799056213737472), (13828302655841107968, 4600427019358961664)]),
  (4598175219545276416, [(0, 0), (9223372036854775808, 9223372036854775808), (4607182418800017408, 4598175219545276416), (13830554455654793216, 13821547256400052224), (4602678819172646912, 4593671619917905920), (13826050856027422720, 13817043656772681728), (4598175219545276416, 4589168020290535424), (13821547256400052224, 13812540057145311232), (4604930618986332160, 4595923419731591168), (13828302655841107968, 13819295456586366976)]),
  (13821547256400052224, [(0, 9223372036854775808), (9223372036854775808, 0), (4607182418800017408, 13821547256400052224), (13830554455654793216, 4598175219545276416), (4602678819172646912, 13817043656772681728), (13826050856027422720, 4593671619917905920), (4598175219545276416, 13812540057145311232), (13821547256400052224, 4589168020290535424), (4604930618986332160, 13819295456586366976), (13828302655841107968, 4595923419731591168)]),
  (4604930618986332160, [(0, 0), (9223372036854775808, 9223372036854775808), (4607182418800017408, 4604930618986332160), (13830554455654793216, 13828302655841107968), (4602678819172646912, 4600427019358961664), (13826050856027422720, 13823799056213737472), (4598175219545276416, 4595923419731591168), (13821547256400052224, 13819295456586366976), (4604930618986332160, 4603241769126068224), (13828302655841107968, 13826613805980844032)]),
  (13828302655841107968, [(0, 9223372036854775808), (9223372036854775808, 0), (4607182418800017408, 13828302655841107968), (13830554455654793216, 4604930618986332160), (4602678819172646912, 13823799056213737472), (13826050856027422720, 4600427019358961664), (4598175219545276416, 13819295456586366976), (13821547256400052224, 4595923419731591168), (4604930618986332160, 13826613805980844032), (13828302655841107968, 4603241769126068224)])]
noncomputable def fastInt (op : BinOp) (a b : Nat) : Option Value :=
  match op with
  | .add => bif Nat.ble (Nat.add a b) (nat_lit 9223372036854775807) then some (.int .i64 (.ofNat (Nat.add a b))) else none
  | .sub => bif Nat.ble b a && Nat.ble a (nat_lit 9223372036854775807) then some (.int .i64 (.ofNat (Nat.sub a b))) else none
  | .mul => bif Nat.ble (Nat.mul a b) (nat_lit 9223372036854775807) then some (.int .i64 (.ofNat (Nat.mul a b))) else none
  | .lss => some (.bool (Nat.ble (Nat.succ a) b))
  | .leq => some (.bool (Nat.ble a b))
  | .gtr => some (.bool (Nat.ble (Nat.succ b) a))
  | .geq => some (.bool (Nat.ble b a))
  | .eql => some (.bool (Nat.beq a b))
  | .neq => some (.bool (!Nat.beq a b))
  | _ => none
noncomputable def fastFloat (op : BinOp) (x y : Nat) : Option Nat :=
  match op with
  | .add => find2 x y tabAdd
  | .sub => find2 x y tabSub
  | .mul => find2 x y tabMul
  | _ => none
noncomputable def fastMul (a b c d : Nat) : Option Value :=
  match find2 a c tabMul, find2 b d tabMul, find2 a d tabMul, find2 b c tabMul with
  | some ac, some bd, some ad, some bc =>
    match find2 ac bd tabSub, find2 ad bc tabAdd with
    | some e, some f => some (.complex .f64 e f)
    | _, _ => none
  | _, _, _, _ => none
noncomputable def fastAdd (a b c d : Nat) : Option Value :=
  match find2 a c tabAdd, find2 b d tabAdd with
  | some e, some f => some (.complex .f64 e f)
  | _, _ => none
noncomputable def fastBin (op : BinOp) (u v : Value) : Option Value :=
  match u, v with
  | .int .i64 (.ofNat a), .int .i64 (.ofNat b) => fastInt op a b
  | .float .f64 a, .float .f64 b => (fastFloat op a b).map (.float .f64)
  | .complex .f64 a b, .complex .f64 c d =>
    match op with
    | .mul => fastMul a b c d
    | .add => fastAdd a b c d
    | _ => none
  | _, _ => none
noncomputable def slowBin (P : Program) (op : BinOp) (t : TypeId) (x y : Operand) (u v : Value) : Option Value :=
  if no3 u && no3 v then
    match pureAt P (do eqGuard op t x y u v; binOp op t u v) with
    | some v => if no3 v then some v else none
    | none => none
  else none
noncomputable def aBin (P : Program) (l : Fr) (op : BinOp) (t : TypeId) (x y : Operand) : Option Value :=
  match evalL l x, evalL l y with
  | some u, some v =>
    match fastBin op u v with
    | some r => some r
    | none => slowBin P op t x y u v
  | _, _ => none
noncomputable def aUn (P : Program) (l : Fr) (op : UnOp) (x : Operand) : Option Value :=
  if isLit l x then
    match pureAt P (Op.unary op (litAt l x)) with
    | some v => if no3 v then some v else none
    | none => none
  else none

/-- What needs no memory. -/
noncomputable def aData (P : Program) (l : Fr) (op : Op) : Option Value :=
  match op with
  | .move x => evalL l x
  | .assign x => evalL l x
  | .pick c x y => aPick l c x y
  | .extract t i => aExtract l t i
  | .field t x f => aField P l t x f
  | .index t x ix => aIndex P l t x ix
  | .makeFunc fn first captured => aMakeFunc l fn first captured
  | .binOp op t x y _ => aBin P l op t x y
  | .unOp op _ x => aUn P l op x
  | .call { callee := .builtin .len, args, argTypes } => aLen P l args argTypes
  | _ => none

noncomputable def evalParts (l : Fr) : List (Nat × Operand) → Option (List (Nat × Value))
  | [] => some []
  | (i, x) :: rest =>
    match evalL l x, evalParts l rest with
    | some v, some vs => if isTup v then none else some ((i, v) :: vs)
    | _, _ => none

noncomputable def cellsOf (v : Value) : List Value := v.cells.toList

/-- A row's cells from an offset on. -/
noncomputable def segOf (H : Hp) (b off n : Nat) : Option (List Value) :=
  match nth H b with
  | some blk => bif blk.live then takeN (dropN blk.cells off) n some else none
  | none => none

noncomputable def splice (l : List Value) (off : Nat) (vs : List Value) : List Value := l.take off ++ vs ++ l.drop (off + vs.length)

noncomputable def fillL (place : Nat → Option (Nat × Nat)) : List (Nat × Value) → List Value → Option (List Value)
  | [], cells => some cells
  | (i, v) :: rest, cells =>
    match place i with
    | none => none
    | some (off, size) =>
      bif Nat.beq (cellsOf v).length size && Nat.ble (off + size) cells.length then fCells (splice cells off (cellsOf v)) fun cs => fillL place rest cs
      else none
noncomputable def zeroRow (z : List Value) : Nat → List Value
  | 0 => []
  | n + 1 => z ++ zeroRow z n

noncomputable def storeAt (H : Hp) (b off : Nat) (vs : List Value) : Option Hp :=
  match vs with
  | [] => none
  | _ :: _ =>
    match nth H b with
    | some blk => bif blk.live && blk.own && vs.all (fun v => isCell v && wf1 H.length v) then
        fCells vs fun vs => fRow blk.cells off vs fun cs => fSet H b ⟨blk.elem, cs, blk.sz, blk.own, blk.live⟩ some
      else none
    | none => none

noncomputable def newBlk (H : Hp) (e : TypeId) (cells : List Value) (sz : Nat) : Option Hp :=
  if cells.all (fun v => isCell v && wf1 H.length v) then
    fCells cells fun cs => fNat sz fun sz => fSnoc H [⟨e, cs, sz, true, true⟩] some
  else none

noncomputable def boundOf (l : Fr) (x : Option Operand) (d : Nat) : Option Nat :=
  match x with
  | none => some d
  | some x =>
    match evalL l x with
    | some (.int _ (.ofNat n)) => some n
    | _ => none

noncomputable def roomy (H : Hp) (b sz n : Nat) : Bool :=
  match H[b]? with
  | some blk => blk.live && blk.own && Nat.beq blk.sz sz && Nat.ble (n * sz) blk.cells.length && Nat.ble 1 sz
  | none => false

noncomputable def elemIs (H : Hp) (b : Nat) (e : TypeId) : Bool :=
  match H[b]? with
  | some blk => blk.live && blk.own && decide (blk.elem = e)
  | none => false

/-- append of nothing. -/
noncomputable def aAppend0 (P : Program) (H : Hp) (t : TypeId) (s : Value) : Option (Value × Hp) :=
  match P.underlying t with
  | some (.slice e) =>
    match szT P e with
    | some sz =>
      match s with
      | .slice none 0 0 => some (s, H)
      | .slice (some a) n k => if a.spot.isNone && (bif Nat.beq k 0 then roomy H a.block sz n else Nat.ble n (k - 1)) then some (s, H) else none
      | _ => none
    | none => none
  | _ => none
noncomputable def growNew (H : Hp) (e : TypeId) (olds news : List Value) (sz len : Nat) : Option (Value × Hp) :=
  (newBlk H e (olds ++ news) sz).map fun H' => (.slice (some ⟨H.length, 0, none⟩) len 0, H')
noncomputable def growOwn (H : Hp) (e : TypeId) (b n m sz : Nat) (news : List Value) : Option (Value × Hp) :=
  match H[b]? with
  | some blk =>
    if blk.live && blk.own && decide (blk.elem = e) && decide (blk.sz = sz) && decide (n * sz ≤ blk.cells.length) then
      fCells (blk.cells.take (n * sz) ++ news) fun cs => fSet H b ⟨blk.elem, blk.cells, blk.sz, blk.own, false⟩ fun H1 => fSnoc H1 [⟨e, cs, sz, true, true⟩] fun H' =>
      some (.slice (some ⟨H.length, 0, none⟩) (n + m) 0, H')
    else none
  | none => none
noncomputable def aAppendTo (H : Hp) (e : TypeId) (sz bytes : Nat) (s : Value) (m : Nat) (news : List Value) : Option (Value × Hp) :=
  match s with
  | .slice none 0 0 => if decide (m * bytes ≤ 140737488355328) && decide (m ≤ 4294967296) then growNew H e [] news sz m else none
  | .slice (some a) n k =>
    if decide ((n + m) * bytes ≤ 140737488355328) && decide (n + m ≤ 4294967296) && a.spot.isNone then
      bif Nat.beq k 0 then (if a.off = 0 then growOwn H e a.block n m sz news else none)
      else bif Nat.ble (n + m) (k - 1) then (if decide (a.off = 0) && elemIs H a.block e then (storeAt H a.block (n * sz) news).map fun H' => (.slice (some a) (n + m) k, H') else none)
      else
        match segOf H a.block a.off (n * sz) with
        | some olds => growNew H e olds news sz (n + m)
        | none => none
    else none
  | _ => none
/-- append of m elements (m is not 0) to a slice. -/
noncomputable def aAppend (P : Program) (H : Hp) (t : TypeId) (s : Value) (b off m : Nat) : Option (Value × Hp) :=
  match P.underlying t with
  | some (.slice e) =>
    match P.info? e with
    | some i =>
      match i.zero with
      | some z =>
        if decide (0 < i.size) && decide (z.cells.size = i.size) then
          match segOf H b off (m * i.size) with
          | some news => aAppendTo H e i.size i.bytes s m news
          | none => none
        else none
      | none => none
    | none => none
  | _ => none

/-- The kit's 'built', on lists. -/
noncomputable def builtL (P : Program) (t : TypeId) (parts : List (Nat × Value)) : Option (List Value) :=
  match P.info? t, P.underlying t with
  | some it, some (.array _ e) =>
    match it.zero, P.info? e with
    | some z, some ie => if no2 z then fillL (fun i => some (i * ie.size, ie.size)) parts z.cells.toList else none
    | _, _ => none
  | some it, some (.struct fields) =>
    match it.zero, fields.toList.mapM (fun f => (P.info? f.type).map fun i => (f.offset, i.size)) with
    | some z, some places => if no2 z then fillL (places.toArray[·]?) parts z.cells.toList else none
    | _, _ => none
  | _, _ => none

noncomputable def aAlloc (P : Program) (H : Hp) (e : TypeId) : Option (Value × Hp) :=
  match P.info? e with
  | some i =>
    match i.zero with
    | some z => if no2 z then (newBlk H e (cellsOf z) (cellsOf z).length).map fun H' => (.pointer (some ⟨H.length, 0, none⟩), H') else none
    | none => none
  | none => none
noncomputable def aBox (l : Fr) (H : Hp) (e : TypeId) (x : Operand) : Option (Value × Hp) :=
  match evalL l x with
  | some v => if isTup v then none else (newBlk H e (cellsOf v) (cellsOf v).length).map fun H' => (.pointer (some ⟨H.length, 0, none⟩), H')
  | none => none
noncomputable def aBuild (P : Program) (l : Fr) (H : Hp) (t : TypeId) (parts : Array (Nat × Operand)) : Option (Value × Hp) :=
  match evalParts l parts.toList with
  | some ps => (builtL P t ps).map fun cs => (.agg cs.toArray, H)
  | none => none
noncomputable def aBuildSlice (P : Program) (l : Fr) (H : Hp) (t : TypeId) (len : Nat) (parts : Array (Nat × Operand)) : Option (Value × Hp) :=
  match evalParts l parts.toList, P.underlying t with
  | some ps, some (.slice e) =>
    match P.info? e with
    | some i =>
      match i.zero with
      | some z =>
        if no2 z && decide (len * i.size ≤ 16777216) && decide ((cellsOf z).length = i.size) && decide (0 < i.size) then
          match fillL (fun j => some (j * i.size, i.size)) ps (zeroRow (cellsOf z) len) with
          | some cs => (newBlk H e cs i.size).map fun H' => (.slice (some ⟨H.length, 0, none⟩) len (len + 1), H')
          | none => none
        else none
      | none => none
    | none => none
  | _, _ => none
noncomputable def aLoad (P : Program) (l : Fr) (H : Hp) (t : TypeId) (x : Operand) : Option Value :=
  match evalL l x, rowT P t with
  | some (.pointer (some a)), some true =>
    match szT P t with
    | some n => if a.spot.isNone then (segOf H a.block a.off n).map fun cs => .agg cs.toArray else none
    | none => none
  | some (.pointer (some a)), some false =>
    if a.spot.isNone then
      match segOf H a.block a.off 1 with
      | some [v] => some v
      | _ => none
    else none
  | _, _ => none
noncomputable def aStore (P : Program) (l : Fr) (H : Hp) (t : TypeId) (x y : Operand) : Option (Value × Hp) :=
  match evalL l x, evalL l y, szT P t with
  | some (.pointer (some a)), some v, some n => if a.spot.isNone && !isTup v && decide ((cellsOf v).length = n) then (storeAt H a.block a.off (cellsOf v)).map fun H' => (undef, H') else none
  | _, _, _ => none
noncomputable def aFieldAddr (P : Program) (l : Fr) (s : TypeId) (x : Operand) (f : Nat) : Option Value :=
  match evalL l x, P.underlying s with
  | some (.pointer (some a)), some (.struct fields) =>
    match fields[f]? with
    | some fd =>
      match szT P fd.type with
      | some n => if n = 0 then none else if a.spot.isNone then some (.pointer (some ⟨a.block, a.off + fd.offset, none⟩)) else none
      | none => none
    | none => none
  | _, _ => none
noncomputable def aIndexAddr (P : Program) (l : Fr) (t : TypeId) (x ix : Operand) : Option Value :=
  match evalL l x, evalL l ix, P.underlying t with
  | some (.slice (some a) n _), some (.int _ (.ofNat i)), some (.slice e) =>
    match szT P e with
    | some sz => bif a.spot.isNone && Nat.ble (Nat.succ i) n then some (.pointer (some ⟨a.block, Nat.add a.off (Nat.mul i sz), none⟩)) else none
    | none => none
  | some (.pointer (some a)), some (.int _ (.ofNat i)), some (.array n e) =>
    match szT P e with
    | some sz => bif a.spot.isNone && Nat.ble (Nat.succ i) n then some (.pointer (some ⟨a.block, Nat.add a.off (Nat.mul i sz), none⟩)) else none
    | none => none
  | _, _, _ => none
noncomputable def aMake (P : Program) (l : Fr) (H : Hp) (t : TypeId) (x y : Operand) : Option (Value × Hp) :=
  match evalL l x, evalL l y, P.underlying t with
  | some (.int _ (.ofNat n)), some (.int _ (.ofNat c)), some (.slice e) =>
    match P.info? e with
    | some i =>
      match i.zero with
      | some z =>
        if no2 z && decide (n ≤ c) && decide (c ≤ 16777216) && decide (i.bytes * c ≤ 281474976710656) && decide ((cellsOf z).length = i.size) && decide (0 < i.size) then
          (newBlk H e (zeroRow (cellsOf z) c) i.size).map fun H' => (.slice (some ⟨H.length, 0, none⟩) n (c + 1), H')
        else none
      | none => none
    | none => none
  | _, _, _ => none
noncomputable def sliceUnk (mx : Bool) (a : Addr) (sz n lo hi m : Nat) : Option Value :=
  if !mx && decide (lo = 0) && decide (hi ≤ n) then some (.slice (some a) hi 0)
  else if mx && decide (lo ≤ hi) && decide (hi ≤ m) && decide (m ≤ n) then
    some (.slice (some (if m = lo then a else ⟨a.block, a.off + lo * sz, none⟩)) (hi - lo) (m - lo + 1))
  else none
noncomputable def sliceKnown (a : Addr) (sz c lo hi m : Nat) : Option Value :=
  if decide (lo ≤ hi) && decide (hi ≤ m) && decide (m ≤ c) then
    some (.slice (some (if m = lo then a else ⟨a.block, a.off + lo * sz, none⟩)) (hi - lo) (m - lo + 1))
  else none
noncomputable def aSlice (P : Program) (l : Fr) (H : Hp) (t : TypeId) (x : Operand) (lo hi mx : Option Operand) : Option Value :=
  match evalL l x, P.underlying t with
  | some (.slice (some a) n k), some (.slice e) =>
    match szT P e, boundOf l lo 0, boundOf l hi n, boundOf l mx (k - 1) with
    | some sz, some lo', some hi', some mx' =>
      if a.spot.isNone && (mx.isNone || hi.isSome) then
        if k = 0 then (if roomy H a.block sz n then sliceUnk mx.isSome a sz n lo' hi' mx' else none) else sliceKnown a sz (k - 1) lo' hi' mx'
      else none
    | _, _, _, _ => none
  | _, _ => none
noncomputable def aAppendOp (P : Program) (l : Fr) (H : Hp) (args : Array Operand) (argTypes : Array TypeId) : Option (Value × Hp) :=
  match args.toList, argTypes.toList with
  | [s, x], [t, t'] =>
    if t = t' then
      match evalL l s, evalL l x with
      | some s', some (.slice (some a) m _) => if a.spot.isNone then (bif Nat.beq m 0 then aAppend0 P H t s' else aAppend P H t s' a.block a.off m) else none
      | some s', some (.slice none 0 _) => aAppend0 P H t s'
      | _, _ => none
    else none
  | _, _ => none
noncomputable def aCopyOp (P : Program) (l : Fr) (H : Hp) (args : Array Operand) (argTypes : Array TypeId) : Option (Value × Hp) :=
  match args.toList, argTypes.toList with
  | [d, s], [t, _] =>
    match evalL l d, evalL l s, P.underlying t with
    | some (.slice (some a) n _), some (.slice (some b) m _), some (.slice e) =>
      match szT P e with
      | some sz =>
        if a.spot.isNone && b.spot.isNone && decide (sz = 1) then
          match segOf H b.block b.off (min m n) with
          | some cs => (storeAt H a.block a.off cs).map fun H' => (.int .i64 (min m n : Nat), H')
          | none => none
        else none
      | none => none
    | _, _, _ => none
  | _, _ => none
/-- What reads memory or computes an address. -/
noncomputable def aRead (P : Program) (l : Fr) (H : Hp) (op : Op) : Option Value :=
  match op with
  | .load t x => aLoad P l H t x
  | .fieldAddr s x f => aFieldAddr P l s x f
  | .indexAddr t x ix => aIndexAddr P l t x ix
  | .slice t x lo hi mx => aSlice P l H t x lo hi mx
  | _ => none
/-- What makes or writes memory. -/
noncomputable def aMem (P : Program) (l : Fr) (H : Hp) (op : Op) : Option (Value × Hp) :=
  match op with
  | .alloc e => aAlloc P H e
  | .box e x => aBox l H e x
  | .build t parts => aBuild P l H t parts
  | .buildSlice t len parts => aBuildSlice P l H t len parts
  | .store t x y => aStore P l H t x y
  | .makeSlice t x y => aMake P l H t x y
  | .call { callee := .builtin .append, args, argTypes } => aAppendOp P l H args argTypes
  | .call { callee := .builtin .copy, args, argTypes } => aCopyOp P l H args argTypes
  | _ => none

noncomputable def aWf (H : Hp) (v : Value) : Option (Value × Hp) := if wf3 H.length v then some (v, H) else none
noncomputable def aWf' (r : Value × Hp) : Option (Value × Hp) := if wf3 r.2.length r.1 then some r else none
noncomputable def kData (o : Oper) : Bool :=
  match o.op with
  | .move _ | .assign _ | .pick _ _ _ | .extract _ _ | .field _ _ _ | .index _ _ _ | .makeFunc _ _ _ | .binOp _ _ _ _ _ | .unOp _ _ _ | .call { callee := .builtin .len, .. } => true
  | _ => false
noncomputable def kRead (o : Oper) : Bool :=
  match o.op with
  | .load _ _ | .fieldAddr _ _ _ | .indexAddr _ _ _ | .slice _ _ _ _ _ => true
  | _ => false
noncomputable def kMem (o : Oper) : Bool :=
  match o.op with
  | .alloc _ | .box _ _ | .build _ _ | .buildSlice _ _ _ | .store _ _ _ | .makeSlice _ _ _ | .call { callee := .builtin .append, .. } | .call { callee := .builtin .copy, .. } => true
  | _ => false
variable [Known]
/-- What is known of an operation on signs. -/
noncomputable def aKnown (l : Fr) (op : Op) : Option Value :=
  match op with
  | .binOp b _ x y _ =>
    match evalL l x, evalL l y with
    | some u, some v => Known.bin b u v
    | _, _ => none
  | .unOp b _ x =>
    match evalL l x with
    | some u => Known.un b u
    | none => none
  | .convert s d x =>
    match evalL l x with
    | some u => Known.conv s d u
    | none => none
  | .call { callee := .builtin .len, args, argTypes } =>
    match args.toList, argTypes.toList with
    | [x], [t] =>
      match evalL l x with
      | some u => Known.len t u
      | none => none
    | _, _ => none
  | _ => none
noncomputable def oPure (P : Program) (l : Fr) (H : Hp) (o : Oper) : Option (Value × Hp) :=
  match aPure P l o with
  | some v => aWf H v
  | none =>
    match aKnown l o.op with
    | some v => if isCell v then aWf H v else none
    | none => none
noncomputable def oData (P : Program) (l : Fr) (H : Hp) (o : Oper) : Option (Value × Hp) :=
  match aData P l o.op with
  | some v => aWf H v
  | none => oPure P l H o
noncomputable def oRead (P : Program) (l : Fr) (H : Hp) (o : Oper) : Option (Value × Hp) :=
  match aRead P l H o.op with
  | some v => aWf H v
  | none => none
noncomputable def oMem (P : Program) (l : Fr) (H : Hp) (o : Oper) : Option (Value × Hp) :=
  match aMem P l H o.op with
  | some r => aWf' r
  | none => none
/-- An operation that is no call of a Go function. -/
noncomputable def aOp (P : Program) (l : Fr) (H : Hp) (o : Oper) : Option (Value × Hp) :=
  bif kData o then oData P l H o else bif kRead o then oRead P l H o else bif kMem o then oMem P l H o else oPure P l H o

noncomputable def yieldedL (ops : Array Oper) (l : Fr) (j : Nat) : Option Bool :=
  match (ops[j]?).bind (·.dst) with
  | some t =>
    match l.get t with
    | .bool b => some b
    | _ => none
  | none => none

noncomputable def aResult (P : Program) (l : Fr) (H : Hp) : ResultVar → Option Value
  | .tmp t => some (l.get t)
  | .cell a t =>
    match l.get a, rowT P t, szT P t with
    | .pointer (some a), some true, some n => if a.spot.isNone then (segOf H a.block a.off n).map fun cs => .agg cs.toArray else none
    | .pointer (some a), some false, _ =>
      if a.spot.isNone then
        match segOf H a.block a.off 1 with
        | some [v] => some v
        | _ => none
      else none
    | _, _, _ => none

noncomputable def aResults (P : Program) (fn : Func) (l : Fr) (H : Hp) : Option Value :=
  match fn.results.toList with
  | [r] => aResult P l H r
  | [] => some (.tuple #[])
  | [r, s] =>
    match aResult P l H r, aResult P l H s with
    | some u, some v => if isTup u || isTup v then none else some (.tuple #[u, v])
    | _, _ => none
  | [r, s, t] =>
    match aResult P l H r, aResult P l H s, aResult P l H t with
    | some u, some v, some x => if isTup u || isTup v || isTup x then none else some (.tuple #[u, v, x])
    | _, _, _ => none
  | _ => none

/-- The same with other numbers of rows. -/
noncomputable def mapA (f : Nat → Nat) (a : Addr) : Addr := ⟨f a.block, a.off, a.spot⟩
noncomputable def map0 (f : Nat → Nat) : Value → Value
  | .pointer (some a) => .pointer (some (mapA f a))
  | v => v
noncomputable def map1 (f : Nat → Nat) : Value → Value
  | .pointer (some a) => .pointer (some (mapA f a))
  | .slice (some a) len k => .slice (some (mapA f a)) len k
  | .func g first cap => .func g first (cap.map (map0 f))
  | v => v
noncomputable def map2 (f : Nat → Nat) : Value → Value
  | .agg cs => .agg (cs.map (map1 f))
  | v => map1 f v
noncomputable def mapV (f : Nat → Nat) : Value → Value
  | .tuple vs => .tuple (vs.map (map2 f))
  | v => map2 f v
noncomputable def mapB (f : Nat → Nat) (b : Blk) : Blk := ⟨b.elem, b.cells.map (map1 f), b.sz, b.own, b.live⟩

/-! ### The rows that a value reaches -/
noncomputable def has (ids : List Nat) (i : Nat) : Bool := ids.any (Nat.beq i)
noncomputable def posOf : List Nat → Nat → Nat
  | [], _ => 0
  | j :: r, i => bif Nat.beq i j then 0 else posOf r i + 1
noncomputable def in0 (ids : List Nat) : Value → Bool
  | .pointer (some a) => has ids a.block
  | _ => true
noncomputable def in1 (ids : List Nat) : Value → Bool
  | .pointer (some a) => has ids a.block
  | .slice (some a) _ _ => has ids a.block
  | .func _ _ cap => cap.toList.all (in0 ids)
  | _ => true
noncomputable def in2 (ids : List Nat) : Value → Bool
  | .agg cs => cs.toList.all (in1 ids)
  | v => in1 ids v
noncomputable def inV (ids : List Nat) : Value → Bool
  | .tuple vs => vs.toList.all (in2 ids)
  | v => in2 ids v
noncomputable def refs0 (v : Value) (acc : List Nat) : List Nat :=
  match v with
  | .pointer (some a) => a.block :: acc
  | _ => acc
noncomputable def refs1 (v : Value) (acc : List Nat) : List Nat :=
  match v with
  | .pointer (some a) => a.block :: acc
  | .slice (some a) _ _ => a.block :: acc
  | .func _ _ cap => cap.toList.foldr refs0 acc
  | _ => acc
noncomputable def refs2 (v : Value) (acc : List Nat) : List Nat :=
  match v with
  | .agg cs => cs.toList.foldr refs1 acc
  | v => refs1 v acc
noncomputable def reach {β : Type} (H : Hp) (fuel : Nat) : List Nat → List Nat → (List Nat → Option β) → Option β :=
  Nat.rec (motive := fun _ => List Nat → List Nat → (List Nat → Option β) → Option β) (fun _ _ _ => none)
    (fun _ ih todo seen k =>
      match todo with
      | [] => k seen
      | i :: r =>
        bif has seen i then ih r seen k
        else match H[i]? with
          | some b => fSnoc seen [i] fun seen => ih (b.cells.foldr refs1 r) seen k
          | none => none) fuel
noncomputable def backOf (ids : List Nat) (k n i : Nat) : Nat := bif Nat.blt i k then ids.getD i 0 else n + (i - k)
/-- The rows of these numbers, to be read alone. -/
noncomputable def rowsAt (H : Hp) (ids : List Nat) : List Nat → Option Hp
  | [] => some []
  | i :: r =>
    match H[i]? with
    | some b => bif b.live && b.cells.all (in1 ids) then (rowsAt H ids r).map fun rs => ⟨b.elem, b.cells.map (map1 (posOf ids)), b.sz, false, true⟩ :: rs else none
    | none => none

inductive AEx where
  | normal
  | exit (id : Nat)
  | ret

abbrev Fns := FuncId → Option Func
abbrev Orc := FuncId → List Value → Hp → Option (Value × Hp)

/-- Who is called, with what: the arguments, then what the function value captured. -/
noncomputable def calleeOf (l : Fr) (f : Operand) (args : Array Operand) : Option (FuncId × List Value) :=
  match evalL l f, evalAll l args.toList with
  | some (.func (.func g) first cap), some vs => if first.isEmpty && cap.toList.all isPtr then some (g, vs ++ cap.toList) else none
  | _, _ => none
noncomputable def aCallee (l : Fr) (o : Oper) : Option (FuncId × List Value) :=
  match o.op with
  | .call { callee := .value f, args, .. } => calleeOf l f args
  | _ => none

/-- What a machine with so much fuel knows: calls, code. -/
structure Mach where
  call : FuncId → List Value → Hp → Option (Value × Hp)
  code : Code → Fr → Hp → Option (AEx × Fr × Hp)

noncomputable def hasBody (F : Fns) (g : FuncId) : Bool :=
  match F g with
  | some fn => fn.body.isSome && !(fn.name == "runtime.NumGoroutine")
  | none => false

noncomputable def fBlks {β : Type} (l : List Blk) : (List Blk → β) → β :=
  List.rec (motive := fun _ => (List Blk → β) → β) (fun k => k []) (fun b _ ih k => fCells b.cells fun cs => fNat b.sz fun n => fBool b.own fun o => fBool b.live fun v => ih fun r => k (⟨b.elem, cs, n, o, v⟩ :: r)) l
omit [Known] in
theorem fBlks_eq {β : Type} (l : List Blk) (k : List Blk → β) : fBlks l k = k l := by
  induction l generalizing k with
  | nil => rfl
  | cons b r ih =>
    show fCells b.cells (fun cs => fNat b.sz fun n => fBool b.own fun o => fBool b.live fun v => fBlks r fun r => k (⟨b.elem, cs, n, o, v⟩ :: r)) = _
    rw [fCells_eq, fNat_eq, fBool_eq, fBool_eq]; exact ih _

/-- A call over the rows that its arguments reach, which it reads alone. -/
noncomputable def callR (m : Mach) (g : FuncId) (vs : List Value) (H : Hp) : Option (Value × Hp) :=
  reach H 1000 (vs.foldr refs2 []) [] fun ids =>
    bif vs.all (inV ids) then
      match rowsAt H ids ids with
      | some rs => fVals (vs.map (mapV (posOf ids))) fun vs' => fBlks rs fun Hs =>
        match m.call g vs' Hs with
        | some (v, H') => bif (H'.drop ids.length).all (·.own) then
            fNat ids.length fun k => fNat H.length fun n => fBlks ((H'.drop k).map (mapB (backOf ids k n))) fun H2 => fSnoc H H2 fun H3 => some (mapV (backOf ids k n) v, H3)
          else none
        | none => none
      | none => none
    else none
noncomputable def callS (m : Mach) (g : FuncId) (vs : List Value) (H : Hp) : Option (Value × Hp) :=
  if vs.all no3 then
    match m.call g vs [] with
    | some (v, H') => if no3 v then some (v, H) else if H'.all (·.own) then fNat H.length fun n => fBlks (H'.map (mapB (fun i => n + i))) fun H2 => fSnoc H H2 fun H' => some (mapV (fun i => n + i) v, H') else none
    | none => none
  else
    match callR m g vs H with
    | some r => some r
    | none => m.call g vs H
noncomputable def kCall (o : Oper) : Bool :=
  match o.op with
  | .call { callee := .value _, .. } => true
  | _ => false
noncomputable def kFree (o : Oper) : Bool := o.guard.isNone
/-! ### The same, what hangs on the program alone reckoned once -/
structure VFn where
  run : Fr → Option Value
structure BFn where
  run : Value → Value → Option Value
structure OFn where
  run : Fr → Hp → Option (Value × Hp)
structure MFn where
  run : Mach → Fr → Hp → Option (Value × Hp)
noncomputable def opd (x : Operand) : VFn :=
  match x with
  | .tmp t => ⟨fun l => some (l.get t)⟩
  | .const v => if no3 v then ⟨fun _ => some v⟩ else ⟨fun _ => none⟩
  | .func f => ⟨fun _ => some (.func (.func f) #[] #[])⟩
  | .global _ => ⟨fun _ => none⟩
/-- No address, at a look. -/
noncomputable def plain (v : Value) : Bool :=
  match v with
  | .int _ _ => true
  | .bool _ => true
  | .float _ _ => true
  | .complex _ _ _ => true
  | _ => false
noncomputable def aWfQ (H : Hp) (v : Value) : Option (Value × Hp) := bif plain v then some (v, H) else aWf H v
noncomputable def dataO (P : Program) (o : Oper) (f : VFn) : OFn := ⟨fun l H =>
  match f.run l with
  | some v => aWfQ H v
  | none => oPure P l H o⟩
noncomputable def qAdd (u v : Value) : Option Value :=
  match u, v with
  | .int .i64 (.ofNat a), .int .i64 (.ofNat b) => bif Nat.ble (Nat.add a b) (nat_lit 9223372036854775807) then some (.int .i64 (.ofNat (Nat.add a b))) else none
  | .float .f64 a, .float .f64 b => (find2 a b tabAdd).map (.float .f64)
  | .complex .f64 a b, .complex .f64 c d => fastAdd a b c d
  | _, _ => none
noncomputable def qMul (u v : Value) : Option Value :=
  match u, v with
  | .int .i64 (.ofNat a), .int .i64 (.ofNat b) => bif Nat.ble (Nat.mul a b) (nat_lit 9223372036854775807) then some (.int .i64 (.ofNat (Nat.mul a b))) else none
  | .float .f64 a, .float .f64 b => (find2 a b tabMul).map (.float .f64)
  | .complex .f64 a b, .complex .f64 c d => fastMul a b c d
  | _, _ => none
noncomputable def qInt (f : Nat → Nat → Option Value) (u v : Value) : Option Value :=
  match u, v with
  | .int .i64 (.ofNat a), .int .i64 (.ofNat b) => f a b
  | _, _ => none
noncomputable def fastC (op : BinOp) : BFn :=
  match op with
  | .add => ⟨qAdd⟩
  | .mul => ⟨qMul⟩
  | .lss => ⟨qInt fun a b => some (.bool (Nat.ble (Nat.succ a) b))⟩
  | .leq => ⟨qInt fun a b => some (.bool (Nat.ble a b))⟩
  | .gtr => ⟨qInt fun a b => some (.bool (Nat.ble (Nat.succ b) a))⟩
  | .geq => ⟨qInt fun a b => some (.bool (Nat.ble b a))⟩
  | .eql => ⟨qInt fun a b => some (.bool (Nat.beq a b))⟩
  | .neq => ⟨qInt fun a b => some (.bool (!Nat.beq a b))⟩
  | op => ⟨fastBin op⟩
noncomputable def binC (P : Program) (op : BinOp) (t : TypeId) (x y : Operand) : VFn := ⟨fun l =>
  match (opd x).run l, (opd y).run l with
  | some u, some v =>
    match (fastC op).run u v with
    | some r => some r
    | none => slowBin P op t x y u v
  | _, _ => none⟩
noncomputable def opC (P : Program) (o : Oper) : OFn :=
  match o.op with
  | .move x => dataO P o (opd x)
  | .assign x => dataO P o (opd x)
  | .pick c x y => dataO P o ⟨fun l => aPick l c x y⟩
  | .extract t i => dataO P o ⟨fun l => aExtract l t i⟩
  | .field t x f => dataO P o ⟨fun l => aField P l t x f⟩
  | .index t x ix => dataO P o ⟨fun l => aIndex P l t x ix⟩
  | .makeFunc fn first captured => dataO P o ⟨fun l => aMakeFunc l fn first captured⟩
  | .binOp op t x y _ => dataO P o (binC P op t x y)
  | .unOp op _ x => dataO P o ⟨fun l => aUn P l op x⟩
  | .call { callee := .builtin .len, args, argTypes } => dataO P o ⟨fun l => aLen P l args argTypes⟩
  | .load t x => ⟨fun l H => match aLoad P l H t x with
    | some v => aWfQ H v
    | none => none⟩
  | .fieldAddr s x f => ⟨fun l H => match aFieldAddr P l s x f with
    | some v => aWf H v
    | none => none⟩
  | .indexAddr t x ix => ⟨fun l H => match aIndexAddr P l t x ix with
    | some v => aWf H v
    | none => none⟩
  | .slice t x lo hi mx => ⟨fun l H => match aSlice P l H t x lo hi mx with
    | some v => aWf H v
    | none => none⟩
  | .alloc e => ⟨fun _ H => match aAlloc P H e with
    | some r => aWf' r
    | none => none⟩
  | .box e x => ⟨fun l H => match aBox l H e x with
    | some r => aWf' r
    | none => none⟩
  | .store t x y => ⟨fun l H => aStore P l H t x y⟩
  | _ => ⟨fun l H => aOp P l H o⟩
noncomputable def aOpQ (P : Program) (l : Fr) (H : Hp) (o : Oper) : Option (Value × Hp) := (opC P o).run l H
noncomputable def stepC (P : Program) (F : Fns) (m : Mach) (l : Fr) (H : Hp) (o : Oper) : Option (Value × Hp) :=
  match aCallee l o with
  | some (g, vs) => if hasBody F g then callS m g vs H else aOpQ P l H o
  | none => aOpQ P l H o
noncomputable def stepS (P : Program) (F : Fns) (m : Mach) (l : Fr) (H : Hp) (o : Oper) : Option (Value × Hp) := bif kCall o then stepC P F m l H o else aOpQ P l H o
noncomputable def stepO (P : Program) (F : Fns) (ops : Array Oper) (o : Oper) : MFn :=
  bif kFree o then bif kCall o then ⟨fun m l H => stepC P F m l H o⟩ else ⟨fun _ l H => (opC P o).run l H⟩
  else ⟨fun m l H => bif Region.wanted o (yieldedL ops l) then stepS P F m l H o else some (undef, H)⟩
/-- An operation that may be left out by its guard. -/
noncomputable def stepW (P : Program) (F : Fns) (m : Mach) (ops : Array Oper) (o : Oper) (l : Fr) (H : Hp) : Option (Value × Hp) :=
  (stepO P F ops o).run m l H
noncomputable def opS {β : Type} (P : Program) (F : Fns) (m : Mach) (ops : Array Oper) (o : Oper) (l : Fr) (H : Hp) (k : Fr → Hp → Option β) : Option β :=
  match stepW P F m ops o l H with
  | some (v, H') => fPut l o.dst v fun l => k l H'
  | none => none
noncomputable def opsS (P : Program) (F : Fns) (m : Mach) (ops : Array Oper) (todo : List Oper) : Fr → Hp → Option (AEx × Fr × Hp) :=
  List.rec (motive := fun _ => Fr → Hp → Option (AEx × Fr × Hp)) (fun l H => some (.normal, l, H)) (fun o _ ih l H => opS P F m ops o l H ih) todo
/-! ### A region whose order is drawn: walked in the text's order; every other order is looked at beforehand -/
noncomputable def isEff (o : Oper) : Bool :=
  match o.op with
  | .alloc _ | .box _ _ | .store _ _ _ | .makeSlice _ _ _ | .buildSlice _ _ _ => true
  | .call { callee := .builtin .append, .. } | .call { callee := .builtin .copy, .. } | .call { callee := .value _, .. } => true
  | _ => false
/-- What must come before each: a number of bits. -/
noncomputable def masksOf : List Oper → List Nat → List Nat
  | [], acc => acc
  | o :: r, acc => masksOf r (acc ++ [o.after.toList.foldl (fun s e => if Region.binds .any e then Nat.lor (Nat.lor s (2 ^ e.on)) (acc.getD e.on 0) else s) 0])
noncomputable def effsOf (eff : Oper → Bool) : List Oper → Nat → List Nat
  | [], _ => []
  | o :: r, i => bif eff o then i :: effsOf eff r (i + 1) else effsOf eff r (i + 1)
noncomputable def comesBefore (masks : List Nat) (i j : Nat) : Bool := Nat.testBit (masks.getD j 0) i
noncomputable def chained (masks : List Nat) : List Nat → Bool
  | i :: j :: r => comesBefore masks i j && chained masks (j :: r)
  | _ => true
/-- May operation i come when so many of the effects have come? -/
noncomputable def possAt (masks effs : List Nat) (i c : Nat) : Bool := (effs.take c).all (fun e => !comesBefore masks i e) && (effs.drop c).all (fun e => !comesBefore masks e i)
noncomputable def directly (o : Oper) (i : Nat) : Bool := o.after.toList.any fun e => Region.binds .any e && Nat.beq e.on i
noncomputable def freeOf (ops : Array Oper) (o : Oper) (i : Nat) : List Oper → Bool
  | [] => true
  | x :: r => (directly x i || Oper.apart ops o x) && freeOf ops o i r
noncomputable def allFree (ops : Array Oper) : List Oper → Nat → Bool
  | [], _ => true
  | o :: r, i => o.after.toList.all (fun e => !Region.binds .any e || Nat.blt e.on i) && freeOf ops o i r && allFree ops r (i + 1)
noncomputable def notSelect (o : Oper) : Bool :=
  match o.op with
  | .select _ _ => false
  | _ => true
/-- The places of the effects, where the region can be looked at; what else may come when. -/
noncomputable def drawOk (eff : Oper → Bool) (ops : Array Oper) : Bool :=
  ops.toList.all notSelect && allFree ops ops.toList 0 && chained (masksOf ops.toList []) (effsOf eff ops.toList 0)
noncomputable def drawPoss (eff : Oper → Bool) (ops : Array Oper) : List (List Bool) :=
  (List.range ops.size).map fun i => (List.range ((effsOf eff ops.toList 0).length + 1)).map fun c => possAt (masksOf ops.toList []) (effsOf eff ops.toList 0) i c
noncomputable def eqA (a b : Option Addr) : Bool :=
  match a, b with
  | none, none => true
  | some ⟨b, o, none⟩, some ⟨b', o', none⟩ => Nat.beq b b' && Nat.beq o o'
  | _, _ => false
noncomputable def eqI (a b : Int) : Bool :=
  match a, b with
  | .ofNat m, .ofNat n => Nat.beq m n
  | .negSucc m, .negSucc n => Nat.beq m n
  | _, _ => false
noncomputable def eq1 (u v : Value) : Bool :=
  match u, v with
  | .int k n, .int k' n' => decide (k = k') && eqI n n'
  | .bool b, .bool b' => b == b'
  | .float k n, .float k' n' => decide (k = k') && Nat.beq n n'
  | .complex k a b, .complex k' a' b' => decide (k = k') && Nat.beq a a' && Nat.beq b b'
  | .pointer a, .pointer a' => eqA a a'
  | .slice a n c, .slice a' n' c' => eqA a a' && Nat.beq n n' && Nat.beq c c'
  | .chan (some i), .chan (some j) => Nat.beq i j
  | _, _ => false
noncomputable def eqL : List Value → List Value → Bool
  | [], [] => true
  | u :: r, v :: s => eq1 u v && eqL r s
  | _, _ => false
noncomputable def eqV (u v : Value) : Bool :=
  match u, v with
  | .agg cs, .agg ds => eqL cs.toList ds.toList
  | .tuple cs, .tuple ds => eqL cs.toList ds.toList
  | u, v => eq1 u v
structure Rc where
  o : Oper
  l : Fr
  v : Value
noncomputable def passS {β : Type} (stp : Oper → Fr → Hp → Option (Value × Hp)) (eff : Oper → Bool) (todo : List Oper) : Fr → Hp → List Hp → List Rc → (Fr → Hp → List Hp → List Rc → Option β) → Option β :=
  List.rec (motive := fun _ => Fr → Hp → List Hp → List Rc → (Fr → Hp → List Hp → List Rc → Option β) → Option β) (fun l H hs rs k => k l H hs rs)
    (fun o _ ih l H hs rs k =>
      match stp o l H with
      | some (v, H') => fVal v fun v => fPut l o.dst v fun l' => ih l' H' (bif eff o then hs ++ [H'] else hs) (rs ++ [⟨o, l, v⟩]) k
      | none => none) todo
/-- Does this operation come to the same on these heaps? -/
noncomputable def sameOn (stp : Oper → Fr → Hp → Option (Value × Hp)) (r : Rc) (own : Nat) : List Bool → List Hp → Nat → Bool
  | [], [], _ => true
  | p :: ps, H :: hs, c =>
    (!p || Nat.beq c own || (match stp r.o r.l H with
      | some (v, _) => eqV v r.v
      | none => false)) && sameOn stp r own ps hs (c + 1)
  | _, _, _ => false
/-- What memory has no part in. -/
noncomputable def kSkip (r : Rc) : Bool := bif kData r.o then no3 r.v else false
noncomputable def allSame (stp : Oper → Fr → Hp → Option (Value × Hp)) (eff : Oper → Bool) (hs : List Hp) : List Rc → List (List Bool) → Nat → Bool
  | [], [], _ => true
  | r :: rs, p :: ps, own => bif eff r.o then allSame stp eff hs rs ps (own + 1) else (bif kSkip r then true else sameOn stp r own p hs 0) && allSame stp eff hs rs ps own
  | _, _, _ => false
noncomputable def drawS (P : Program) (F : Fns) (m : Mach) (ops : Array Oper) (l : Fr) (H : Hp) : Option (AEx × Fr × Hp) :=
  bif drawOk isEff ops then
    passS (stepW P F m ops) isEff ops.toList l H [H] [] fun l' H' hs rs => bif allSame (stepW P F m ops) isEff hs rs (drawPoss isEff ops) 0 then some (.normal, l', H') else none
  else none

/-! ### A region in which one variable is made, at whatever time: its row is laid first, and sleeps -/
noncomputable def isAlloc (o : Oper) : Bool :=
  match o.op with
  | .alloc _ => true
  | _ => false
noncomputable def effA (o : Oper) : Bool := isEff o && !isAlloc o
noncomputable def stepA (P : Program) (F : Fns) (m : Mach) (ops : Array Oper) (h : Nat) (o : Oper) (l : Fr) (H : Hp) : Option (Value × Hp) :=
  bif isAlloc o then some (.pointer (some ⟨h, 0, none⟩), H) else stepW P F m ops o l H
noncomputable def noref0 (h : Nat) : Value → Bool
  | .pointer (some a) => !Nat.beq a.block h
  | _ => true
noncomputable def noref1 (h : Nat) : Value → Bool
  | .pointer (some a) => !Nat.beq a.block h
  | .slice (some a) _ _ => !Nat.beq a.block h
  | .func _ _ cap => cap.toList.all (noref0 h)
  | _ => true
noncomputable def noref2 (h : Nat) : Value → Bool
  | .agg cs => cs.toList.all (noref1 h)
  | v => noref1 h v
noncomputable def noref3 (h : Nat) : Value → Bool
  | .tuple vs => vs.toList.all (noref2 h)
  | v => noref2 h v
noncomputable def eqB (a b : Blk) : Bool := decide (a.elem = b.elem) && eqL a.cells b.cells && Nat.beq a.sz b.sz && (a.own == b.own) && (a.live == b.live)
noncomputable def eqH : Hp → Hp → Bool
  | [], [] => true
  | a :: r, b :: s => eqB a b && eqH r s
  | _, _ => false
noncomputable def killB (b : Blk) : Blk := ⟨b.elem, b.cells, b.sz, b.own, false⟩
noncomputable def kill (h : Nat) (H : Hp) : Hp :=
  match H[h]? with
  | some b => H.set h (killB b)
  | none => H
/-- Where the row sleeps: it is as it was laid, and nothing speaks of it. -/
noncomputable def sleeps (h : Nat) (blk : Blk) (H : Hp) : Bool :=
  (match H[h]? with
    | some b => eqB b blk
    | none => false) && H.all (fun b => b.cells.all (noref1 h))
noncomputable def sleepsAll (h : Nat) (blk : Blk) : List Hp → Bool
  | [] => true
  | H :: r => sleeps h blk H && sleepsAll h blk r
/-- What may come while the row sleeps: it comes to the same. -/
noncomputable def sameAsleep (stp : Oper → Fr → Hp → Option (Value × Hp)) (eff : Oper → Bool) (h : Nat) (r : Rc) (own : Nat) : List Bool → List Hp → Nat → Bool
  | [], _, _ => true
  | _, [], _ => true
  | p :: ps, H :: hs, c =>
    (bif eff r.o then
      !Nat.beq c own || (match hs with
        | H' :: _ => (match stp r.o r.l (kill h H) with
          | some (v, H'') => eqV v r.v && eqH H'' (kill h H')
          | none => false)
        | [] => false)
    else !p || (match stp r.o r.l (kill h H) with
      | some (v, _) => eqV v r.v
      | none => false)) && sameAsleep stp eff h r own ps hs (c + 1)
noncomputable def allAsleep (stp : Oper → Fr → Hp → Option (Value × Hp)) (eff : Oper → Bool) (h : Nat) (hs : List Hp) : List Rc → List (List Bool) → List Bool → Nat → Bool
  | [], [], [], _ => true
  | r :: rs, p :: ps, d :: ds, own =>
    (d || isAlloc r.o || (noref3 h r.v && sameAsleep stp eff h r own p hs 0)) && allAsleep stp eff h hs rs ps ds (bif eff r.o then own + 1 else own)
  | _, _, _, _ => false
noncomputable def allocAt : List Oper → Nat → Option (Nat × TypeId)
  | [], _ => none
  | o :: r, i =>
    match o.op with
    | .alloc e => bif o.guard.isNone && r.all (fun o => !isAlloc o) then some (i, e) else none
    | _ => allocAt r (i + 1)
/-- Which operations hang on the row. -/
noncomputable def hangs (ops : Array Oper) (x : Nat) : List Bool := (List.range ops.size).map fun i => comesBefore (masksOf ops.toList []) x i
/-- How many effects may come while the row sleeps. -/
noncomputable def sleepN (ops : Array Oper) (x : Nat) : Nat := ((effsOf effA ops.toList 0).takeWhile fun e => !comesBefore (masksOf ops.toList []) x e).length
noncomputable def drawA (P : Program) (F : Fns) (m : Mach) (ops : Array Oper) (l : Fr) (H : Hp) : Option (AEx × Fr × Hp) :=
  match allocAt ops.toList 0 with
  | some (x, e) =>
    match P.info? e with
    | some i =>
      match i.zero with
      | some z =>
        bif no2 z && drawOk effA ops then
          fNat H.length fun h => fCells (cellsOf z) fun cs => fNat cs.length fun n => fSnoc H [⟨e, cs, n, true, true⟩] fun H0 =>
          passS (stepA P F m ops h) effA ops.toList l H0 [H0] [] fun l' H' hs rs =>
            bif allSame (stepA P F m ops h) effA hs rs (drawPoss effA ops) 0 && sleepsAll h ⟨e, cs, n, true, true⟩ (hs.take (sleepN ops x + 1)) && allAsleep (stepA P F m ops h) effA h (hs.take (sleepN ops x + 1)) rs (drawPoss effA ops) (hangs ops x) 0
            then some (.normal, l', H') else none
        else none
      | none => none
    | none => none
  | none => none
/-- Nothing but the text's order is possible for what reads and writes: the walk is the plain one. -/
noncomputable def plainRow (own : Nat) : List Bool → Nat → Bool
  | [], _ => true
  | p :: ps, c => (!p || Nat.beq c own) && plainRow own ps (Nat.succ c)
noncomputable def plainAll : List Oper → List (List Bool) → Nat → Bool
  | [], _, _ => true
  | o :: r, p :: ps, own => bif isEff o then plainAll r ps (Nat.succ own) else plainRow own p 0 && plainAll r ps own
  | _, _, _ => false
noncomputable def drawPlain (ops : Array Oper) : Bool := drawOk isEff ops && plainAll ops.toList (drawPoss isEff ops) 0
noncomputable def drawR (P : Program) (F : Fns) (m : Mach) (ops : Array Oper) (l : Fr) (H : Hp) : Option (AEx × Fr × Hp) :=
  bif drawPlain ops then opsS P F m ops ops.toList l H else bif drawOk isEff ops then drawS P F m ops l H else drawA P F m ops l H
noncomputable def thenS (m : Mach) (y : Code) : Option (AEx × Fr × Hp) → Option (AEx × Fr × Hp)
  | some (.normal, l, H) => m.code y l H
  | r => r
noncomputable def blockS (id : Nat) : Option (AEx × Fr × Hp) → Option (AEx × Fr × Hp)
  | some (.exit id', l, H) => if id' = id then some (.normal, l, H) else some (.exit id', l, H)
  | r => r
noncomputable def condS (m : Mach) (x y : Code) (l : Fr) (H : Hp) : Option Value → Option (AEx × Fr × Hp)
  | some (.bool true) => m.code x l H
  | some (.bool false) => m.code y l H
  | _ => none
noncomputable def codeS (P : Program) (F : Fns) (m : Mach) (c : Code) (l : Fr) (H : Hp) : Option (AEx × Fr × Hp) :=
  match c with
  | .skip => some (.normal, l, H)
  | .label _ => some (.normal, l, H)
  | .exit id => some (.exit id, l, H)
  | .ret => some (.ret, l, H)
  | .seq x y => thenS m y (m.code x l H)
  | .cond c x y => condS m x y l H (evalL l c)
  | .block id c => blockS id (m.code c l H)
  | .loop c => thenS m (.loop c) (m.code c l H)
  | .region _ ops draw => bif draw then drawR P F m ops l H else opsS P F m ops ops.toList l H
  | _ => none
noncomputable def endS (P : Program) (fn : Func) : Option (AEx × Fr × Hp) → Option (Value × Hp)
  | some (.exit _, _, _) => none
  | some (_, l, H') =>
    match aResults P fn l H' with
    | some v => aWf H' v
    | none => none
  | none => none
noncomputable def bodyS (P : Program) (m : Mach) (fn : Func) (vs : List Value) (H : Hp) : Option (Value × Hp) :=
  match fn.body with
  | some c => if decide (vs.length ≤ fn.ntmps) && decide (fn.ntmps ≤ 1000000) then endS P fn (fPuts ⟨fn.ntmps, .nil⟩ 0 vs fun l => m.code c l H) else none
  | none => none
noncomputable def callF (P : Program) (F : Fns) (O : Orc) (m : Mach) (g : FuncId) (vs : List Value) (H : Hp) : Option (Value × Hp) :=
  match O g vs H with
  | some r => some r
  | none =>
    match F g with
    | some fn => bodyS P m fn vs H
    | none => none

noncomputable def mach (P : Program) (F : Fns) (O : Orc) (n : Nat) : Mach :=
  Nat.rec (motive := fun _ => Mach) ⟨fun _ _ _ => none, fun _ _ _ => none⟩ (fun _ m => ⟨callF P F O m, codeS P F m⟩) n

end Go.Proofs.Ytmckaoeofikdaaa.Lift
