/- A reader of Go code in plain values: the same, with what comes behind handed in. -/
import Derived.Test.YtgkohnjpnnofhaaGreatDen11
namespace Go.Proofs.YtgkohnjpnnofhaaGreat.Den
set_option linter.unusedSimpArgs false
set_option linter.unusedVariables false
set_option linter.unnecessarySimpa false
open Go.RowKit
def gateK (gs : List (V × Bool)) (y : Option V) : Option V := match gs with
 | [] => y
 | p :: r => (gateL (p :: r) (some .any)).bind fun _ => y
theorem gateK_eq (gs : List (V × Bool)) (y : Option V) : gateK gs y = (gateL gs (some .any)).bind fun _ => y := by cases gs <;> rfl
noncomputable def stepBK (P : Program) (env : FuncId → List V → Option V) (s : Nat) (st : St) (o : Oper) (K : C → Option (List V) → Option V) : Option V :=
 match o.op with
 | .move x | .assign x => K (st.ev x) none
 | .pick c x y => (pickV (st.rd c) (st.rd x) (st.rd y)).bind fun v => K (.v v) none
 | .load t x => (loadC P st t (st.ev x)).bind fun v => K (.v v) none
 | .fieldAddr t x f => match placeP P t f with
  | some p => match p.2 with
   | 0 => none
   | _ + 1 => match st.ev x with
    | .v x => (ptrF p.1 x).bind fun v => K (.v v) none
    | _ => none
  | none => none
 | .field t x f => (fieldV P t (st.rd x) f).bind fun v => K (.v v) none
 | .nilCheck x => (ptrF 0 (st.rd x)).bind fun v => K (.v v) none
 | .indexAddr t x i => (idxV P t (st.rd x) (st.rd i)).bind fun v => K (.v v) none
 | .index t x i => (scal2 P (Instr.index t) (st.rd x) (st.rd i)).bind fun v => K (.v v) none
 | .binOp op t x y _ => (bin2 P op t x y (st.rd x) (st.rd y)).bind fun v => K (.v v) none
 | .unOp op _ x => (scal1 P (Op.unary op) (st.rd x)).bind fun v => K (.v v) none
 | .convert a b x => match st.ev x with
  | .ref s p gs => match convK P a b with
   | 2 => (gateL gs ((rowsR st s p).bind fun rows => b2s (.sl rows))).bind fun v => K (.v v) none
   | _ => none
  | _ => (convV P a b (st.rd x)).bind fun v => K (.v v) none
 | .makeInterface t x => (scal1 P (Instr.makeInterface t) (st.rd x)).bind fun v => K (.v v) none
 | .lookup t m k ok => (lookC P st t ok (st.ev m) (st.rd k)).bind fun v => K (.v v) none
 | .slice t x lo hi none => (sliceV P t (st.rd x) (lo.map st.rd) (hi.map st.rd)).bind fun v => K (.v v) none
 | .extract x i => (extractV (st.rd x) i).bind fun v => K (.v v) none
 | .build t parts => (buildO P t (parts.toList.map fun p => (p.1, st.rd p.2))).bind fun v => K (.v v) none
 | .buildSlice t n parts => (buildSliceO P t n (parts.toList.map fun p => (p.1, st.rd p.2))).bind fun v => K (.v v) none
 | .makeFunc (.func f) first caps => match first.size with
  | 0 => K (.v (.fn f (caps.toList.map st.rd))) none
  | _ + 1 => none
 | .alloc t => match zeroP P t with
  | some z => K (.box s ⟨[], 0⟩) (some z)
  | none => none
 | .box _ x => ((st.rd x).cellsO).bind fun z => K (.box s ⟨[], 0⟩) (some z)
 | .call c => match c.callee with
  | .builtin .len => (lenR P st c.argTypes (c.args.toList.map st.ev)).bind fun v => K (.v v) none
  | .builtin .min => match c.args.toList with
   | [x, y] => (scal2 P (fun u v => Builtin.min_ c.argTypes o.type #[u, v]) (st.rd x) (st.rd y)).bind fun v => K (.v v) none
   | _ => none
  | .builtin .max => match c.args.toList with
   | [x, y] => (scal2 P (fun u v => Builtin.max_ c.argTypes o.type #[u, v]) (st.rd x) (st.rd y)).bind fun v => K (.v v) none
   | _ => none
  | .value f => match st.isRf (o.dst.map (· + 1000000)) with
   | true => match f with
    | .func f => match elemP P o.type with
     | some p => (if f < 1000000 ∧ p.1 ≠ 987654321 then env (f + 1000000 * (p.1 + 2)) (c.args.toList.map st.rd) else none).bind fun y => K (.row s) (some [.lit (.int .i64 p.1), y])
     | none => none
    | _ => none
   | false => (callV env (st.rd f) (c.args.toList.map st.rd)).bind fun v => K (.v v) none
  | _ => none
 | _ => none
noncomputable def stepHK (P : Program) (env : FuncId → List V → Option V) (s : Nat) (st : St) (o : Oper) (K : C → Option (List V) → Option V) : Option V := match addrOp P st o with
 | some r => match r.1 with
  | .box _ ⟨[], _⟩ => K r.1 none
  | _ => r.2.bind fun _ => K r.1 none
 | none => stepBK P env s st o K
def callBVK (env : FuncId → List V → Option V) (st : St) (m : Option TypeId) (f : FuncId) (args : List Operand) (K : V → Option V) : Option V := match m with
 | none => argsB st (args.map st.ev) fun l => (if f < 1000000 then env f l else none).bind fun y => (litQ y).bind K
 | some e => match decide (e = 987654321) with
  | true => argsL st (args.map st.ev) fun l => (if f < 1000000 then env (f + 1000000 * (987654321 + 2)) l else none).bind fun y => (litQ y).bind K
  | false => argsB st (args.map st.ev) fun l => (if f < 1000000 then env (f + 1000000 * (e + 2)) l else none).bind fun y => (flatQ y).bind K
theorem callBVK_eq {env : FuncId → List V → Option V} {st : St} {m : Option TypeId} {f : FuncId} {args : List Operand} (K : V → Option V) : callBVK env st m f args K = (callBV env st m f args).bind K := by
 unfold callBVK callBV
 cases m with
 | none => simp only [argsB_eq]; exact (Option.bind_assoc _ _ _).symm
 | some e =>
  simp only []
  cases decide (e = 987654321) with
  | true => simp only [argsL_eq]; exact (Option.bind_assoc _ _ _).symm
  | false => simp only [argsB_eq]; exact (Option.bind_assoc _ _ _).symm
noncomputable def shOpK0 (P : Program) (env : FuncId → List V → Option V) (ops : Array Oper) (s : Nat) (st : St) (o : Oper) (K : C → Option (List V) → Option V) : Option V := match o.guard with
 | none => stepHK P env s st o K
 | some p => match (ops[p.1]?).bind (·.dst) with
  | some t => match addrOp P st o with
   | some r => (guardV (st.asV (st.φ t)) p.2 r.2).bind fun _ => K (r.1.addG (st.asV (st.φ t), p.2)) none
   | none => (guardV (st.asV (st.φ t)) p.2 (stepHK P env s st o fun c b => match b with
    | none => some (st.asV c)
    | some _ => none)).bind fun v => K (.v v) none
  | none => none
noncomputable def shOpK (P : Program) (env : FuncId → List V → Option V) (ops : Array Oper) (s : Nat) (st : St) (o : Oper) (K : C → Option (List V) → Option V) : Option V := match callGd st o with
 | some q => match o.guard with
  | none => callBVK env st (modeB P st o) q.1 q.2 fun y => K (.v y) none
  | some p => match (ops[p.1]?).bind (·.dst) with
   | some t => (guardV (st.asV (st.φ t)) p.2 (callBV env st (modeB P st o) q.1 q.2)).bind fun y => K (.v y) none
   | none => none
 | none => shOpK0 P env ops s st o K
def appV (k : Nat) (rows : List (List V)) (y : V) : Option V := (appR k rows y).map .sl
def tailOK (P : Program) (s : Nat) (st : St) (dst : Option Nat) (t : TypeId) (c : C) (f : List (List V) → Option V) (K : St → Option V) : Option V := match c with
 | .row r => match elemP P t with
  | some p => match rowsAt st p.1 (.row r) with
   | some rows => (f rows).bind fun x => K ({ st with rw := upd (dropRow st (.row r)) s (some (p.1, slL x)) }.put dst (.row s))
   | none => none
  | none => none
 | _ => none
def appendK (P : Program) (s : Nat) (st : St) (dst : Option Nat) (t : TypeId) (c : C) (y : V) (K : St → Option V) : Option V := match elemP P t with
 | some p => match rowsAt st p.1 c with
  | some rows => (appV p.2 rows y).bind fun x => K ({ st with rw := upd (dropRow st c) s (some (p.1, slL x)) }.put dst (.row s))
  | none => none
 | none => none
def spliceV (l : List V) (off k : Nat) (y : V) : Option V := y.cellsO.bind fun cs => (spliceO l off k cs).map .agg
def storeK (P : Program) (st : St) (dst : Option Nat) (t : TypeId) (c : C) (y : V) (K : St → Option V) : Option V := match c with
 | .box s' off => gateK off.gs (match st.bx s' with
  | some l => match sizeP P t with
   | some k => (spliceV l off.o k y).bind fun x => K ({ st with bx := upd st.bx s' (some (aggL x)) }.put dst (.v .any))
   | none => none
  | none => none)
 | _ => none
def giveK (st : St) (s : Nat) (c : C) (K : List V → Option Nat → Option V) : Option V := match c with
 | .ref s2 [] [] => if s2 = s then none else match st.ow s2 with
  | some z => z.cellsO.bind fun cs => K cs (some s2)
  | none => none
 | c => (st.asV c).cellsO.bind fun cs => K cs none
def storeOK (P : Program) (st : St) (dst : Option Nat) (t : TypeId) (s : Nat) (p : List Stp) (q : Stp) (gs : List (V × Bool)) (cy : C) (K : St → Option V) : Option V :=
 gateK gs (match sizeP P t with
  | some k => match st.ow s with
   | some x => giveK st s cy fun cs s2 => (setV x p q k cs).bind fun x' => K (({ (dropO st s2).kill s p.length with ow := upd (dropO st s2).ow s (some x') }).put dst (.v .any))
   | none => none
  | none => none)
noncomputable def ownOpK (P : Program) (s : Nat) (st : St) (o : Oper) (K : St → Option V) : Option (Option V) := match o.op with
 | .store t x y => match st.ev x with
  | .adr s' p q gs => some (storeOK P st o.dst t s' p q gs (st.ev y) K)
  | _ => none
 | .makeSlice t l c => some (match elemP P t with
  | some p => match zeroP P p.1 with
   | some z => (makeN p.2 z (st.rd l) (st.rd c)).bind fun y => K ({ st with ow := upd st.ow s (some y) }.put o.dst (.ref s [] []))
   | none => none
  | none => none)
 | .alloc t => match st.isRf o.dst with
  | true => some (match zeroP P t with
   | some z => K ({ st with ow := upd st.ow s (some (.obj z)) }.put o.dst (.adr s [] ⟨none, 0, 0⟩ []))
   | none => none)
  | false => none
 | .box t x => match st.isRf o.dst with
  | true => some (giveK st s (st.ev x) fun cs s2 => K ({ dropO st s2 with ow := upd (dropO st s2).ow s (some (.obj cs)) }.put o.dst (.adr s [] ⟨none, 0, 0⟩ [])))
  | false => none
 | .convert t1 t2 x => match st.isRf o.dst with
  | true => match convK P t1 t2 with
   | 1 => some ((s2bT (st.rd x)).bind fun y => K ({ st with ow := upd st.ow s (some y) }.put o.dst (.ref s [] [])))
   | _ => none
  | false => none
 | .buildSlice t n parts => match st.isRf o.dst with
  | true => some (match elemP P t with
   | some p => (buildSliceO P t n (parts.toList.map fun p => (p.1, st.rd p.2))).bind fun y => K ({ st with rw := upd st.rw s (some (p.1, slL y)) }.put o.dst (.row s))
   | none => none)
  | false => none
 | .makeMap t none => some (K ({ st with ow := upd st.ow s (some (.mp [])) }.put o.dst (.ref s [] [])))
 | .mapUpdate t m k v => match st.ev m with
  | .ref s' [] gs => some (gateK gs (match st.ow s' with
   | some x => (putV P t x (st.rd k) (st.rd v)).bind fun x' => K (({ st.kill s' 0 with ow := upd st.ow s' (some x') }).put o.dst (.v .any))
   | none => none))
  | .ref s' (q :: pa) [] => some (match st.ow s' with
   | some x => (getV x (q :: pa)).bind fun y => (putV P t y (st.rd k) (st.rd v)).bind fun y' => (match (q :: pa).getLast? with
    | some q0 => (modX x (q :: pa).dropLast q0 y').bind fun x' => K (({ st.kill s' (q :: pa).dropLast.length with ow := upd st.ow s' (some x') }).put o.dst (.v .any))
    | none => none)
   | none => none)
  | _ => none
 | _ => none
def takeK (st : St) (s : Nat) (p : List Stp) (K : V → St → Option V) : Option V := match st.ow s with
 | some x => match p with
  | [] => K x (dropO st (some s))
  | p :: ps => (getV x (p :: ps)).bind fun y => match (p :: ps).getLast? with
   | some q => (modX x (p :: ps).dropLast q .any).bind fun x' => K y { st.kill s ps.length with ow := upd st.ow s (some x') }
   | none => none
 | none => none
def srcK (st : St) (c : C) (K : V → Option Nat → Option V) : Option V := match c with
 | .ref s3 [] [] => match st.ow s3 with
  | some x => K x (some s3)
  | none => none
 | c => K (st.asV c) none
def appOK (P : Program) (s : Nat) (st : St) (dst : Option Nat) (t : TypeId) (cx : C) (y : Operand) (K : St → Option V) : Option V := match elemP P t with
 | some p => match cx with
  | .nil => srcK st (st.ev y) fun q1 q2 => (appS p.2 (.osl p.2 []) q1).bind fun z => K (({ dropO st q2 with ow := upd (dropO st q2).ow s (some z) } : St).put dst (.ref s [] []))
  | .ref s2 pa [] => takeK st s2 pa fun x st1 => srcK st1 (st1.ev y) fun q1 q2 => (appS p.2 x q1).bind fun z => K (({ dropO st1 q2 with ow := upd (dropO st1 q2).ow s (some z) } : St).put dst (.ref s [] []))
  | _ => none
 | none => none
def litS (k : Nat) (cs : List V) : Option V := if cs.length = k ∧ k ≤ 16777216 then some (.osl k [cs]) else none
def litOK (P : Program) (s : Nat) (st : St) (dst : Option Nat) (t : TypeId) (n : Nat) (parts : List (Nat × Operand)) (K : St → Option V) : Option V := match n, parts with
 | 1, [(0, x)] => match elemP P t with
  | some p => giveK st s (st.ev x) fun cs s2 => (litS p.2 cs).bind fun z => K (({ dropO st s2 with ow := upd (dropO st s2).ow s (some z) } : St).put dst (.ref s [] []))
  | none => none
 | _, _ => none
def argK (st : St) (c : C) (K : V × Option Nat → Option V) : Option V := match c with
 | .ref s [] [] => match st.ow s with
  | some x => K (x, some s)
  | none => none
 | .adr s [] ⟨none, 0, _⟩ [] => match st.ow s with
  | some x => (objG x).bind fun _ => K (x, some s)
  | none => none
 | c => K (st.asV c, none)
def argsK (st : St) : List C → (List (V × Option Nat) → Option V) → Option V
 | [], K => K []
 | c :: r, K => argK st c fun x => argsK st r fun l => K (x :: l)
def callOK (env : FuncId → List V → Option V) (s : Nat) (st : St) (dst : Option Nat) (f : FuncId) (args : List Operand) (K : St → Option V) : Option V := argsK st (args.map st.ev) fun l => match nodupO (sitesO l) with
 | true => (if f < 1000000 then env (f + 1000000) (l.map (·.1)) else none).bind fun z => match st.isRf dst with
  | true => K ({ afterO st l z with ow := upd (afterO st l z).ow s (some (tupAt z 0)) }.put dst (.ref s [] []))
  | false => match dst with
   | none => K (afterO st l z)
   | some d => (pureO (tupAt z 0)).bind fun y => K ((afterO st l z).put (some d) (.v y))
 | false => none
def takeLK (P : Program) (s : Nat) (st : St) (dst : Option Nat) (t : TypeId) (c : C) (K : St → Option V) : Option V := match rootA c with
 | some s2 => match st.ow s2 with
  | some x => (wholeO P t x).bind fun z => K (({ dropO st (some s2) with ow := upd (dropO st (some s2)).ow s (some z) } : St).put dst (.ref s [] []))
  | none => none
 | none => none
def takeCK (P : Program) (s : Nat) (st : St) (dst : Option Nat) (t : TypeId) (x : Operand) (K : St → Option V) : Option V := match childO P st t x with
 | some (.ref s2 pa [], b) => b.bind fun _ => takeK st s2 pa fun y st1 => K (({ st1 with ow := upd st1.ow s (some y) } : St).put dst (.ref s [] []))
 | _ => none
def nilOK (P : Program) (s : Nat) (st : St) (dst : Option Nat) (t : TypeId) (c : C) (K : St → Option V) : Option V := match c with
 | .nil => match elemP P t with
  | some p => K (({ st with ow := upd st.ow s (some (.osl p.2 [])) } : St).put dst (.ref s [] []))
  | none => none
 | _ => none
def partK (y : V) (i : Nat) (Ko : List V → List V → Option V) (Kp : V → Option V) : Option V := match y with
 | .tup l => match l[i]? with
  | some (.obj cs) => Ko (l.set i .any) cs
  | some x => (pureO x).bind Kp
  | none => none
 | _ => none
def partP (y : V) (i : Nat) (K : V → Option V) : Option V := match y with
 | .tup l => (l[i]?).bind fun x => (pureO x).bind K
 | _ => none
def partR (y : V) (i : Nat) (K : List V → Nat → List (List V) → Option V) : Option V := match y with
 | .tup l => match l[i]? with
  | some (.osl k rows) => K (l.set i .any) k rows
  | _ => none
 | _ => none
def partOK (b sl : Bool) (s : Nat) (st : St) (dst : Option Nat) (c : C) (i : Nat) (K : St → Option V) : Option V := match c with
 | .ref s2 [] [] => match st.ow s2 with
  | some y => match sl with
   | true => partR y i fun l k rows => K (({ st with ow := upd (upd st.ow s2 (some (.tup l))) s (some (.osl k rows)) } : St).put dst (.ref s [] []))
   | false => match b with
   | true => partK y i (fun l cs => K (({ st with ow := upd (upd st.ow s2 (some (.tup l))) s (some (.obj cs)) } : St).put dst (.adr s [] ⟨none, 0, 0⟩ []))) fun x => K (st.put dst (.v x))
   | false => partP y i fun x => K (st.put dst (.v x))
  | none => none
 | _ => none
def buildRK (P : Program) (s : Nat) (st : St) (dst : Option Nat) (t : TypeId) (parts : List (Nat × Operand)) (K : St → Option V) : Option V := match parts with
 | (i, x) :: r => match st.ev x with
  | .ref s2 [] [] => match st.ow s2 with
   | some (.mp l) => match (placesP P t).bind (·[i]?) with
    | some (off, 1) => match r.all fun p => apartP ((placesP P t).getD []) off p.1 with
     | true => (buildN P t ((i, .lit (.bool false)) :: r.map fun p => (p.1, st.rd p.2))).bind fun y => (aggC y).bind fun cs => K (({ dropO st (some s2) with ow := upd (dropO st (some s2)).ow s (some (.agg (cs.set off (.mp l)))) } : St).put dst (.ref s [] []))
     | false => none
    | _ => none
   | _ => none
  | _ => none
 | [] => none
theorem buildRK_eq {P : Program} {s : Nat} {st : St} {dst : Option Nat} {t : TypeId} {parts : List (Nat × Operand)} (K : St → Option V) : buildRK P s st dst t parts K = (buildR P s st dst t parts).bind K := by
 unfold buildRK buildR
 rcases parts with _ | ⟨⟨i, x⟩, r⟩
 ·rfl
 simp only []
 cases st.ev x with
 | ref s2 pa gs =>
  cases pa with
  | cons => rfl
  | nil =>
   cases gs with
   | cons => rfl
   | nil =>
    simp only []
    cases st.ow s2 with
    | none => rfl
    | some z =>
     cases z with
     | mp l =>
      simp only []
      cases (placesP P t).bind (·[i]?) with
      | none => rfl
      | some q =>
       obtain ⟨off, n⟩ := q
       rcases n with _ | _ | n
       ·rfl
       ·simp only []
        cases r.all fun p => apartP ((placesP P t).getD []) off p.1 with
        | false => rfl
        | true =>
         simp only []
         cases buildN P t ((i, .lit (.bool false)) :: r.map fun p => (p.1, st.rd p.2)) with
         | none => rfl
         | some y =>
          simp only [oS_]
          cases aggC y <;> rfl
       ·rfl
     | _ => rfl
 | _ => rfl
def mOpK (P : Program) (env : FuncId → List V → Option V) (s : Nat) (st : St) (o : Oper) (K : St → Option V) : Option (Option V) := match o.op with
 | .call ⟨.builtin .append, args, tys⟩ => match args.toList, tys.toList with
  | [x, y], [t, t'] => match st.ev x with
   | .ref s2 pa gs => some (if t' = t then appOK P s st o.dst t (.ref s2 pa gs) y K else none)
   | .nil => match st.isRf o.dst with
    | true => some (if t' = t then appOK P s st o.dst t .nil y K else none)
    | false => none
   | _ => none
  | _, _ => none
 | .call ⟨.value (.func f), args, _⟩ => match st.isRf (o.dst.map (· + 1000000)) with
  | true => none
  | false => match st.isRf (o.dst.map (· + 2000000)) with
   | true => some (callBVK env st (modeB P st o) f args.toList fun y => K (st.put o.dst (.v y)))
   | false => match st.isRf o.dst || args.toList.any (fun x => isRoot (st.ev x)) with
    | true => some (callOK env s st o.dst f args.toList K)
    | false => none
 | .buildSlice t n parts => match st.isRf (o.dst.map (· + 1000000)) with
  | true => some (litOK P s st o.dst t n parts.toList K)
  | false => none
 | .build t parts => match st.isRf (o.dst.map (· + 1000000)) with
  | true => some ((buildN P t (parts.toList.map fun p => (p.1, st.rd p.2))).bind fun v => K (st.put o.dst (.v v)))
  | false => match st.isRf (o.dst.map (· + 2000000)) with
   | true => some (buildRK P s st o.dst t parts.toList K)
   | false => none
 | .alloc t => match st.isRf (o.dst.map (· + 1000000)) with
  | true => some (match arrP P t with
   | some (n, k) => (match zeroP P t with
    | some z => if z.length = n * k ∧ 0 < n ∧ n ≤ 65536 ∧ 0 < k then K (({ st with ow := upd st.ow s (some (.osl k (chunks k n z))) } : St).put o.dst (.adr s [] ⟨some 0, 0, k⟩ [])) else none
    | none => none)
   | none => (match zeroN P t with
    | some z => K (({ st with ow := upd st.ow s (some (.obj z)) } : St).put o.dst (.adr s [] ⟨none, 0, 0⟩ []))
    | none => none))
  | false => none
 | .load t x => match st.isRf (o.dst.map (· + 1000000)) with
  | true => some (takeLK P s st o.dst t (st.ev x) K)
  | false => match st.isRf (o.dst.map (· + 2000000)) with
   | true => some (takeCK P s st o.dst t x K)
   | false => none
 | .assign x => match st.isRf (o.dst.map (· + 1000000)) with
  | true => some (nilOK P s st o.dst o.type (st.ev x) K)
  | false => none
 | .slice t x (some lo) none none => match st.isRf (o.dst.map (· + 1000000)) with
  | true => some (tailOK P s st o.dst t (st.ev x) (fun rows => tailV rows (st.rd lo)) K)
  | false => none
 | .slice t x none (some hi) (some mx) => match st.isRf (o.dst.map (· + 1000000)) with
  | true => some (tailOK P s st o.dst t (st.ev x) (fun rows => headV rows (st.rd hi) (st.rd mx)) K)
  | false => none
 | .extract x i => match st.ev x with
  | .ref s2 [] [] => some (partOK (st.isRf o.dst) (st.isRf (o.dst.map (· + 2000000))) s st o.dst (.ref s2 [] []) i K)
  | _ => none
 | _ => none
noncomputable def stepTK0 (P : Program) (env : FuncId → List V → Option V) (s : Nat) (st : St) (o : Oper) (K : St → Option V) : Option V :=
 match o.op with
 | .store t x y => storeK P st o.dst t (st.ev x) (st.rd y) K
 | .call ⟨.builtin .append, args, tys⟩ => match args.toList, tys.toList with
  | [x, y], [t, t'] => if t' = t then appendK P s st o.dst t (st.ev x) (st.rd y) K else none
  | _, _ => none
 | _ => stepHK P env s st o fun c b => K (st.app s o.dst (c, b))
noncomputable def stepTK (P : Program) (env : FuncId → List V → Option V) (s : Nat) (st : St) (o : Oper) (K : St → Option V) : Option V := match ownOpK P s st o K with
 | some r => r
 | none => match mOpK P env s st o K with
  | some r => r
  | none => stepTK0 P env s st o K
def callGOK (env : FuncId → List V → Option V) (st : St) (dst : Option Nat) (f : FuncId) (args : List Operand) (x : V) (want : Bool) (K : St → Option V) : Option V := argsK st (bareL (args.map st.ev)) fun l => match nodupO (sitesO l) with
 | true => (guardZ x want (gateL (gatesL (args.map st.ev)) (if f < 1000000 then env (f + 1000000) (l.map (·.1)) else none)) (.tup (.tup [] :: skipZ l))).bind fun z => match st.isRf dst with
  | true => none
  | false => match dst with
   | none => none
   | some d => (pureO (tupAt z 0)).bind fun y => K ((afterO st l z).put (some d) (.v y))
 | false => none
noncomputable def shTK (P : Program) (env : FuncId → List V → Option V) (ops : Array Oper) (s : Nat) (st : St) (o : Oper) (K : St → Option V) : Option V := match o.guard with
 | none => stepTK P env s st o K
 | some p => match st.isRf (o.dst.map (· + 5000000)) with
  | true => match (ops[p.1]?).bind (·.dst), callGF o with
   | some t, some q => callGOK env st o.dst q.1 q.2 (st.asV (st.φ t)) p.2 K
   | _, _ => none
  | false => shOpK P env ops s st o fun c b => K (st.app s o.dst (c, b))
noncomputable def denHK (P : Program) (env : FuncId → List V → Option V) (ops : Array Oper) (nx0 : Nat) : List Oper → Nat → St → (St → Option V) → Option V
 | [], _, st, K => K st
 | o :: r, k, st, K => shOpK P env ops (nx0 + k) st o fun c b => denHK P env ops nx0 r (k + 1) (st.app (nx0 + k) o.dst (c, b)) K
noncomputable def denTK (P : Program) (env : FuncId → List V → Option V) (ops : Array Oper) (nx0 : Nat) : List Oper → Nat → St → (St → Option V) → Option V
 | [], _, st, K => K st
 | o :: r, k, st, K => shTK P env ops (nx0 + k) st o fun st' => denTK P env ops nx0 r (k + 1) st' K
noncomputable def fltK (P : Program) (m : Bool) (st : St) (o : Oper) (K : C → Option V) : Option V := match o.op with
 | .move x => K (st.ev x)
 | .slice t x lo hi none => (sliceV P t (st.rd x) (lo.map st.rd) (hi.map st.rd)).bind fun y => K (.v y)
 | .binOp op t x y _ => (bin2 P op t x y (st.rd x) (st.rd y)).bind fun y => (litV y).bind fun y => K (.v y)
 | .fieldAddr t x f => match m with
  | true => match placeP P t f with
   | some (d, _ + 1) => match st.ev x with
    | .box s ⟨[], off⟩ => K (.box s ⟨[], off + d⟩)
    | _ => none
   | _ => none
  | false => match placeP P t f with
   | some (d, _ + 1) => match st.ev x with
    | .v y => (ptrF d y).bind fun v => K (.v v)
    | _ => none
   | _ => none
 | .load t x => match m with
  | true => match st.ev x with
   | .box s ⟨[], off⟩ => (loadC P st t (.box s ⟨[], off⟩)).bind fun y => (litV y).bind fun y => K (.v y)
   | _ => none
  | false => match st.ev x with
   | .v y => (loadC P st t (.v y)).bind fun y => (litV y).bind fun y => K (.v y)
   | _ => none
 | .indexAddr t x i => match m with
  | true => none
  | false => match st.ev x with
   | .v y => (idxV P t y (st.rd i)).bind fun v => K (.v v)
   | _ => none
 | .extract x i => (extractV (st.rd x) i).bind fun y => (litV y).bind fun y => K (.v y)
 | .pick c x y => (pickV (st.rd c) (st.rd x) (st.rd y)).bind fun v => K (.v v)
 | _ => none
noncomputable def denFlK (P : Program) (m : Bool) (ops : Array Oper) (nx0 : Nat) : List Nat → St → (St → Option V) → Option V
 | [], st, K => K st
 | i :: r, st, K => match ops[i]? with
  | some o => match o.guard with
   | none => fltK P m st o fun c => denFlK P m ops nx0 r (st.app (nx0 + i) o.dst (c, none)) K
   | some p => match (ops[p.1]?).bind (·.dst) with
    | some t => (guardV (st.asV (st.φ t)) p.2 (fltK P m st o onlyC)).bind fun y => denFlK P m ops nx0 r (st.app (nx0 + i) o.dst (.v y, none)) K
    | none => none
  | none => none
noncomputable def denTlK (P : Program) (env : FuncId → List V → Option V) (ops : Array Oper) (nx0 : Nat) : List Nat → St → (St → Option V) → Option V
 | [], st, K => K st
 | i :: r, st, K => match ops[i]? with
  | some o => shTK P env ops (nx0 + i) st o fun st' => denTlK P env ops nx0 r st' K
  | none => none
noncomputable def denRK (P : Program) (env : FuncId → List V → Option V) (ops : Array Oper) (draw : Bool) (n : Nat) (st : St) (K : St → Option V) : Option V := match draw with
 | true => match decide (n ≤ ops.size) with
  | true => denHK P env ops st.nx (ops.toList.take n) 0 st fun st1 => denTK P env ops st.nx (ops.toList.drop n) n st1 K
  | false => denFlK P (mapsOnly ops) ops st.nx (fltL ops n) st fun st1 => denTlK P env ops st.nx (sqL ops n) st1 K
 | false => denTK P env ops st.nx ops.toList 0 st K
section
variable {P : Program} {Dw : World → Prop} {env : FuncId → List V → Option V} {st : St} {o : Oper} {s : Nat} {ops : Array Oper}
theorem vres_bind {x : Option V} {K : C → Option (List V) → Option V} : (vres x).bind (fun r => K r.1 r.2) = x.bind fun v => K (.v v) none := by cases x <;> rfl
theorem stepBK_eq (K : C → Option (List V) → Option V) : stepBK P env s st o K = (stepB P env s st o).bind fun r => K r.1 r.2 := by
 obtain ⟨dst, op, ty, pos, after, guard⟩ := o
 unfold stepBK stepB
 cases op <;> simp only [vres_bind, oS_, Option.bind_none]
 case alloc t => cases zeroP P t <;> rfl
 case box t x => cases (st.rd x).cellsO <;> rfl
 case makeFunc f first caps =>
  cases f <;> simp only [Option.bind_none]
  cases hs : first.size with
  | zero => simp [vres]
  | succ n => simp
 case slice t x lo hi mx => cases mx <;> simp only [vres_bind, Option.bind_none]
 case fieldAddr t x f =>
  cases placeP P t f with
  | none => rfl
  | some p =>
   obtain ⟨p1, p2⟩ := p
   cases p2 with
   | zero => rfl
   | succ q =>
    simp only [oS_]
    rw [if_neg (by omega)]
    cases st.ev x with
    | v z => simp only [fieldC]; cases ptrF p1 z <;> rfl
    | _ => rfl
 case convert t1 t2 x =>
  cases st.ev x with
  | ref s2 p gs =>
   simp only
   generalize convK P t1 t2 = kk
   rcases kk with _ | _ | _ | kk
   ·rfl
   ·rfl
   ·simp only [vres_bind]
   ·rfl
  | _ => simp only [vres_bind]
 case call c =>
  obtain ⟨callee, args, tys⟩ := c
  cases callee with
  | invoke r m => rfl
  | value f =>
   simp only []
   cases hb : st.isRf (dst.map (· + 1000000)) with
   | false => simp only [vres_bind]
   | true =>
    simp only []
    cases f <;> try rfl
    unfold rowB
    simp only []
    cases elemP P ty with
    | none => rfl
    | some p =>
     simp only [oS_]
     cases (if _ < 1000000 ∧ p.1 ≠ 987654321 then _ else none : Option V) <;> rfl
  | builtin b =>
   cases b <;> simp only [vres_bind, Option.bind_none]
   all_goals
    generalize args.toList = l
    rcases l with _ | ⟨x, _ | ⟨y, _ | ⟨z, r⟩⟩⟩
    ·rfl
    ·rfl
    ·simp only [vres_bind]
    ·rfl
theorem addrOp_box {r : C × Option V} (h : addrOp P st o = some r) {s2 o2 : Nat} (hr : r.1 = .box s2 ⟨[], o2⟩) : ∃ z, r.2 = some z := by
 unfold addrOp at h
 split at h
 ·split at h
  ·split at h
   ·rename_i off _
    simp only [oE_] at h
    subst h
    simp only [C.box.injEq, Off.mk.injEq] at hr
    exact ⟨.any, by simp only [hr.2.1, gateL]⟩
   ·simp only [oE_] at h
    subst h
    cases hr
   ·cases h
  ·cases h
 ·split at h
  ·split at h
   ·simp only [oE_] at h
    subst h
    cases hr
   ·cases h
  ·split at h
   ·split at h
    ·simp only [oE_] at h
     subst h
     cases hr
    ·split at h
     ·simp only [oE_] at h
      subst h
      cases hr
     ·cases h
   ·cases h
  ·cases h
 ·split at h
  ·split at h
   ·split at h
    ·simp only [oE_] at h
     subst h
     cases hr
    ·cases h
   ·cases h
  ·cases h
 ·split at h
  ·split at h
   ·simp only [oE_] at h
    subst h
    cases hr
   ·simp only [oE_] at h
    subst h
    cases hr
   ·cases h
  ·cases h
 ·split at h
  ·simp only [oE_] at h
   subst h
   cases hr
  ·rename_i off _
   simp only [oE_] at h
   subst h
   simp only [C.box.injEq, Off.mk.injEq] at hr
   exact ⟨.any, by simp only [hr.2.1, gateL]⟩
  ·simp only [oE_] at h
   subst h
   cases hr
  ·cases h
 ·cases h
theorem stepHK_eq (K : C → Option (List V) → Option V) : stepHK P env s st o K = (stepH P env s st o).bind fun r => K r.1 r.2 := by
 unfold stepHK stepH
 cases hr : addrOp P st o with
 | some r =>
  simp only
  split
  ·rename_i s2 o2 he
   obtain ⟨z, hz⟩ := addrOp_box hr he
   rw [hz]; rfl
  ·cases r.2 <;> rfl
 | none => exact stepBK_eq K
theorem shOpK0_eq (K : C → Option (List V) → Option V) : shOpK0 P env ops s st o K = (shOp0 P env ops s st o).bind fun r => K r.1 r.2 := by
 unfold shOpK0 shOp0
 cases o.guard with
 | none => exact stepHK_eq K
 | some p =>
  simp only
  cases (ops[p.1]?).bind (·.dst) with
  | none => rfl
  | some t =>
   simp only
   cases hr : addrOp P st o with
   | some r =>
    simp only
    cases guardV (st.asV (st.φ t)) p.2 r.2 <;> rfl
   | none =>
    simp only
    rw [vres_bind, stepHK_eq]
    congr 2
    cases stepH P env s st o with
    | none => rfl
    | some r => obtain ⟨c, b⟩ := r; cases b <;> rfl
theorem shOpK_eq (K : C → Option (List V) → Option V) : shOpK P env ops s st o K = (shOp P env ops s st o).bind fun r => K r.1 r.2 := by
 unfold shOpK shOp
 cases callGd st o with
 | none => exact shOpK0_eq K
 | some q =>
  simp only
  cases o.guard with
  | none =>
   rw [callBVK_eq, vres_bind]
  | some p =>
   simp only
   cases (ops[p.1]?).bind (·.dst) with
   | none => rfl
   | some t => simp only [vres_bind]
theorem giveK_eq (c : C) (K : List V → Option Nat → Option V) : giveK st s c K = (giveC st s c).bind fun y => K y.1 y.2 := by
 have gen : ∀ c : C, ((st.asV c).cellsO.bind fun cs => K cs none) = ((st.asV c).cellsO.map fun cs => (cs, (none : Option Nat))).bind fun y => K y.1 y.2 := fun c => by cases (st.asV c).cellsO <;> rfl
 cases c with
 | ref s2 p gs =>
  cases p with
  | cons q r => exact gen (.ref s2 (q :: r) gs)
  | nil =>
   cases gs with
   | cons q r => exact gen (.ref s2 [] (q :: r))
   | nil =>
    simp only [giveK, giveC]
    by_cases e : s2 = s
    ·rw [if_pos e, if_pos e]; rfl
    ·rw [if_neg e, if_neg e]
     cases st.ow s2 with
     | none => rfl
     | some z => simp only [oS_]; cases z.cellsO <;> rfl
 | v x => exact gen (.v x)
 | nil => exact gen .nil
 | box s2 o => exact gen (.box s2 o)
 | row s2 => exact gen (.row s2)
 | adr s2 p q gs => exact gen (.adr s2 p q gs)
theorem ownOpK_eq (K : St → Option V) : ownOpK P s st o K = (ownOp P s st o).map (·.bind K) := by
 obtain ⟨dst, op, ty, pos, after, guard⟩ := o
 unfold ownOpK ownOp
 cases op <;> simp only [Option.map_none]
 case store t x y =>
  cases st.ev x with
  | adr s' p q gs =>
   simp only [Option.map_some, oE_]
   unfold storeOK storeO
   rw [gateK_eq]
   cases gateL gs (some V.any) with
   | none => rfl
   | some z =>
    simp only [oS_]
    cases sizeP P t with
    | none => rfl
    | some k =>
     simp only [oS_]
     cases st.ow s' with
     | none => rfl
     | some x =>
      simp only [oS_, giveK_eq]
      cases giveC st s' (st.ev y) with
      | none => rfl
      | some y =>
       simp only [oS_]
       cases setV x p q k y.1 <;> rfl
  | _ => rfl
 case makeSlice t l c =>
  simp only [Option.map_some, oE_]
  unfold makeO
  cases elemP P t with
  | none => rfl
  | some p =>
   simp only [oS_]
   cases zeroP P p.1 with
   | none => rfl
   | some z =>
    simp only [oS_]
    cases makeN p.2 z (st.rd l) (st.rd c) <;> rfl
 case makeMap t r => cases r <;> rfl
 case mapUpdate t m k v =>
  cases st.ev m with
  | ref s' p gs =>
   cases p with
   | cons q pa =>
    cases gs with
    | cons => rfl
    | nil =>
     simp only [Option.map_some, oE_]
     unfold putN
     cases st.ow s' with
     | none => rfl
     | some x =>
      simp only [oS_]
      cases getV x (q :: pa) with
      | none => rfl
      | some y =>
       simp only [oS_]
       cases putV P t y (st.rd k) (st.rd v) with
       | none => rfl
       | some y' =>
        simp only [oS_]
        cases (q :: pa).getLast? with
        | none => rfl
        | some q0 =>
         simp only [oS_]
         cases modX x (q :: pa).dropLast q0 y' <;> rfl
   | nil =>
    simp only [Option.map_some, oE_]
    unfold putO
    rw [gateK_eq]
    cases gateL gs (some V.any) with
    | none => rfl
    | some z =>
     simp only [oS_]
     cases st.ow s' with
     | none => rfl
     | some x =>
      simp only [oS_]
      cases putV P t x (st.rd k) (st.rd v) <;> rfl
  | _ => rfl
 case buildSlice t n parts =>
  cases st.isRf dst with
  | false => rfl
  | true =>
   simp only [Option.map_some, oE_]
   unfold rowO
   cases elemP P t with
   | none => rfl
   | some p =>
    simp only [oS_]
    cases buildSliceO P t n (parts.toList.map fun p => (p.1, st.rd p.2)) <;> rfl
 case alloc t =>
  cases st.isRf dst with
  | false => rfl
  | true =>
   simp only [Option.map_some, oE_]
   unfold allocO
   cases zeroP P t <;> rfl
 case box t x =>
  cases st.isRf dst with
  | false => rfl
  | true =>
   simp only [Option.map_some, oE_]
   unfold boxO
   rw [giveK_eq]
   cases giveC st s (st.ev x) <;> rfl
 case convert t1 t2 x =>
  cases st.isRf dst with
  | false => rfl
  | true =>
   simp only
   generalize convK P t1 t2 = kk
   rcases kk with _ | _ | kk
   ·rfl
   ·simp only [Option.map_some, oE_]
    unfold bytesO
    cases s2bT (st.rd x) <;> rfl
   ·rfl
theorem stepTK0_eq (K : St → Option V) : stepTK0 P env s st o K = (stepT0 P env s st o).bind K := by
 have gen : (stepHK P env s st o fun c b => K (st.app s o.dst (c, b))) = ((stepH P env s st o).map (st.app s o.dst)).bind K := by
  rw [stepHK_eq]
  cases stepH P env s st o <;> rfl
 unfold stepTK0 stepT0
 split
 ·rename_i t x y hop
  rw [hop]
  dsimp only
  unfold storeK storeT
  cases st.ev x with
  | box s' off =>
   simp only [gateK_eq]
   cases gateL off.gs (some .any) with
   | none => rfl
   | some z9 =>
   simp only [oS_]
   cases st.bx s' with
   | none => rfl
   | some l =>
    simp only [oS_]
    unfold spliceV
    cases sizeP P t with
    | none => cases (st.rd y).cellsO <;> rfl
    | some k =>
     simp only [oS_]
     cases (st.rd y).cellsO with
     | none => rfl
     | some cs =>
      simp only [oS_]
      cases spliceO l off.o k cs <;> rfl
  | _ => rfl
 ·rename_i args tys hop
  rw [hop]
  simp only
  split
  ·rename_i x y t t' hx ht
   simp only [hx, ht]
   by_cases e : t' = t
   ·rw [if_pos e, if_pos e]
    unfold appendK appendT
    cases elemP P t with
    | none => rfl
    | some p =>
     simp only [oS_]
     cases rowsAt st p.1 (st.ev x) with
     | none => rfl
     | some rows =>
      simp only [oS_, appV]
      cases appR p.2 rows (st.rd y) <;> rfl
   ·rw [if_neg e, if_neg e]; rfl
  ·rename_i hno
   split
   ·rename_i x y t t' hx ht
    exact (hno x y t t' hx ht).elim
   ·rfl
 ·rename_i h1 h2
  rw [gen]
  split
  ·rename_i t x y hop; exact (h1 t x y hop).elim
  ·rename_i args tys hop; exact (h2 args tys hop).elim
  ·rfl
theorem bind_map' {α β γ : Type} (x : Option α) (f : α → β) (K : β → Option γ) : (x.map f).bind K = x.bind fun a => K (f a) := by cases x <;> rfl
theorem bind_assoc' {α β γ : Type} (x : Option α) (f : α → Option β) (K : β → Option γ) : (x.bind f).bind K = x.bind fun a => (f a).bind K := by cases x <;> rfl
theorem takeK_eq {p : List Stp} (K : V → St → Option V) : takeK st s p K = (takeO st s p).bind fun r => K r.1 r.2 := by
 unfold takeK
 cases p with
 | nil =>
  simp only [takeO]
  cases st.ow s <;> rfl
 | cons p ps =>
  simp only [takeO]
  cases hs : st.ow s with
  | none => rfl
  | some x =>
   simp only [oS_, bind_assoc']
   congr 1
   funext y
   cases hl : (p :: ps).getLast? with
   | none => rfl
   | some q => simp only [oS_, bind_map']
theorem srcK_eq {c : C} (K : V → Option Nat → Option V) : srcK st c K = (srcO st c).bind fun q => K q.1 q.2 := by
 unfold srcK
 split
 ·simp only [srcO]
  cases st.ow _ <;> rfl
 ·rename_i hne
  unfold srcO
  split
  ·exact (hne _ rfl).elim
  ·rfl
theorem appOK_eq {dst : Option Nat} {t : TypeId} {cx : C} {y : Operand} (K : St → Option V) : appOK P s st dst t cx y K = (appO P s st dst t cx y).bind K := by
 unfold appOK appO
 cases elemP P t with
 | none => rfl
 | some p =>
  simp only [oS_]
  split
  ·simp only [srcK_eq, oS_, bind_assoc', bind_map']
  ·simp only [takeK_eq, srcK_eq, oS_, bind_assoc', bind_map']
  ·rename_i h1 h2
   split
   ·exact (h1 rfl).elim
   ·exact (h2 _ _ rfl).elim
   ·rfl
theorem litOK_eq {dst : Option Nat} {t : TypeId} {n : Nat} {parts : List (Nat × Operand)} (K : St → Option V) : litOK P s st dst t n parts K = (litO P s st dst t n parts).bind K := by
 unfold litOK litO
 split
 ·cases elemP P t with
  | none => rfl
  | some p =>
   simp only [oS_, giveK_eq, bind_assoc']
   congr 1
   funext y
   unfold litS
   split <;> rfl
 ·rename_i h1
  split
  ·exact (h1 _ rfl rfl).elim
  ·rfl
theorem argK_eq {c : C} (K : V × Option Nat → Option V) : argK st c K = (argO st c).bind K := by
 unfold argK
 split
 ·simp only [argO]
  cases st.ow _ <;> rfl
 ·simp only [argO]
  cases st.ow _ with
  | none => rfl
  | some x => simp only [oS_, bind_map']
 ·rename_i h1 h2
  unfold argO
  split
  ·exact (h1 _ rfl).elim
  ·exact (h2 _ _ rfl).elim
  ·rfl
theorem argsK_eq : ∀ (cs : List C) (K : List (V × Option Nat) → Option V), argsK st cs K = (argsO st cs).bind K
 | [], K => rfl
 | c :: r, K => by
  simp only [argsK, argsO, argK_eq, bind_assoc']
  congr 1
  funext q
  rw [argsK_eq r, bind_map']
theorem callOK_eq {dst : Option Nat} {f : FuncId} {args : List Operand} (K : St → Option V) : callOK env s st dst f args K = (callO env s st dst f args).bind K := by
 unfold callOK callO
 rw [argsK_eq, bind_assoc']
 congr 1
 funext l
 cases hn : nodupO (sitesO l) with
 | false => rfl
 | true =>
  simp only [bind_assoc']
  congr 1
  funext z
  cases hr : st.isRf dst with
  | true => rfl
  | false =>
   cases dst with
   | none => rfl
   | some d => simp only [bind_map']
theorem mOpK_eq (K : St → Option V) : mOpK P env s st o K = (mOp P env s st o).map (·.bind K) := by
 obtain ⟨dst, op, ty, pos, after, guard⟩ := o
 unfold mOpK mOp
 cases op <;> try rfl
 case call c =>
  obtain ⟨callee, args, tys⟩ := c
  cases callee with
  | invoke r m => rfl
  | builtin b =>
   cases b <;> try rfl
   simp only []
   generalize args.toList = al
   generalize tys.toList = tl
   rcases al with _ | ⟨x, _ | ⟨y, _ | ⟨_, _⟩⟩⟩ <;> rcases tl with _ | ⟨t, _ | ⟨t', _ | ⟨_, _⟩⟩⟩ <;> try rfl
   simp only []
   cases hx : st.ev x <;> simp only [] <;> try rfl
   ·cases hr : st.isRf dst with
    | false => rfl
    | true =>
     simp only [Option.map_some]
     by_cases e : t' = t
     ·simp only [if_pos e, appOK_eq]
     ·simp only [if_neg e]; rfl
   ·simp only [Option.map_some]
    by_cases e : t' = t
    ·simp only [if_pos e, appOK_eq]
    ·simp only [if_neg e]; rfl
  | value f =>
   cases f <;> try rfl
   simp only []
   cases ha : st.isRf (dst.map (· + 1000000)) with
   | true => rfl
   | false =>
    simp only []
    cases hq : st.isRf (dst.map (· + 2000000)) with
    | true =>
     simp only [Option.map_some]
     rw [callBVK_eq]
     unfold callB
     generalize callBV env st _ _ args.toList = X
     cases X <;> rfl
    | false =>
     simp only []
     cases hb : (st.isRf dst || args.toList.any (fun x => isRoot (st.ev x))) with
     | false => rfl
     | true => simp only [Option.map_some, callOK_eq]
 case buildSlice t n parts =>
  simp only []
  cases hb : st.isRf (dst.map (· + 1000000)) with
  | false => rfl
  | true => simp only [Option.map_some, litOK_eq]
 case build t parts =>
  simp only []
  cases hb : st.isRf (dst.map (· + 1000000)) with
  | false =>
   simp only []
   cases hb2 : st.isRf (dst.map (· + 2000000)) with
   | false => rfl
   | true => simp only [Option.map_some, buildRK_eq]
  | true =>
   simp only [Option.map_some]
   cases buildN P t (parts.toList.map fun p => (p.1, st.rd p.2)) <;> rfl
 case alloc t =>
  simp only []
  cases hb : st.isRf (dst.map (· + 1000000)) with
  | false => rfl
  | true =>
   simp only [Option.map_some]
   unfold allocN
   cases arrP P t with
   | none => cases zeroN P t <;> rfl
   | some p =>
    simp only []
    cases zeroP P t with
    | none => rfl
    | some z =>
     simp only [oS_]
     by_cases hc : z.length = p.1 * p.2 ∧ 0 < p.1 ∧ p.1 ≤ 65536 ∧ 0 < p.2
     ·rw [if_pos hc, if_pos hc]; rfl
     ·rw [if_neg hc, if_neg hc]; rfl
 case load t x =>
  simp only []
  cases hb : st.isRf (dst.map (· + 1000000)) with
  | false =>
   simp only []
   cases hb2 : st.isRf (dst.map (· + 2000000)) with
   | false => rfl
   | true =>
    simp only [Option.map_some]
    unfold takeCK takeC
    generalize childO P st t x = q
    cases q with
    | none => rfl
    | some q =>
     obtain ⟨c, b⟩ := q
     cases c <;> try rfl
     rename_i s2 pa gs
     cases gs with
     | cons => rfl
     | nil =>
      simp only []
      cases b with
      | none => rfl
      | some z => simp only [oS_, takeK_eq, bind_map']
  | true =>
   simp only [Option.map_some]
   unfold takeLK takeL
   generalize rootA (st.ev x) = r
   cases r with
   | none => rfl
   | some s2 =>
    simp only [oS_]
    cases st.ow s2 with
    | none => rfl
    | some y =>
     simp only [oS_]
     cases wholeO P t y <;> rfl
 case assign x =>
  simp only []
  cases hb : st.isRf (dst.map (· + 1000000)) with
  | false => rfl
  | true =>
   simp only [Option.map_some]
   unfold nilOK nilO
   generalize st.ev x = c
   cases c <;> try rfl
   simp only []
   cases elemP P ty <;> rfl
 case slice t x lo hi mx =>
  cases lo with
  | none =>
   cases hi with
   | none => rfl
   | some hi =>
    cases mx with
    | none => rfl
    | some mx =>
     simp only []
     cases hb : st.isRf (dst.map (· + 1000000)) with
     | false => rfl
     | true =>
      simp only [Option.map_some]
      unfold tailOK tailO
      generalize st.ev x = c
      cases c <;> try rfl
      rename_i r
      simp only []
      cases elemP P t with
      | none => rfl
      | some p =>
       simp only [oS_]
       cases rowsAt st p.1 (.row r) with
       | none => rfl
       | some rows =>
        simp only [oS_]
        cases headV rows (st.rd hi) (st.rd mx) <;> rfl
  | some lo =>
   cases hi with
   | some _ => rfl
   | none =>
    cases mx with
    | some _ => rfl
    | none =>
     simp only []
     cases hb : st.isRf (dst.map (· + 1000000)) with
     | false => rfl
     | true =>
      simp only [Option.map_some]
      unfold tailOK tailO
      generalize st.ev x = c
      cases c <;> try rfl
      rename_i r
      simp only []
      cases elemP P t with
      | none => rfl
      | some p =>
       simp only [oS_]
       cases rowsAt st p.1 (.row r) with
       | none => rfl
       | some rows =>
        simp only [oS_]
        cases tailV rows (st.rd lo) <;> rfl
 case extract x i =>
  simp only []
  cases hev : st.ev x <;> try rfl
  rename_i s2 p gs
  cases p with
  | cons => rfl
  | nil =>
   cases gs with
   | cons => rfl
   | nil =>
    simp only [Option.map_some]
    unfold partOK partO
    simp only []
    cases st.ow s2 with
    | none => rfl
    | some y =>
     cases st.isRf (dst.map (· + 2000000)) with
     | true =>
      cases y <;> try rfl
      rename_i l
      simp only [partR]
      cases l[i]? with
      | none => rfl
      | some x => cases x <;> rfl
     | false =>
     cases st.isRf dst with
     | false =>
      cases y <;> try rfl
      rename_i l
      simp only [partP]
      cases l[i]? with
      | none => rfl
      | some x => simp only [oS_, bind_map']
     | true =>
      cases y <;> try rfl
      rename_i l
      simp only [partK]
      cases l[i]? with
      | none => rfl
      | some x =>
       cases x <;> first | rfl | simp only [bind_map']
theorem stepTK_eq (K : St → Option V) : stepTK P env s st o K = (stepT P env s st o).bind K := by
 unfold stepTK stepT
 rw [ownOpK_eq]
 cases ownOp P s st o with
 | some r => rfl
 | none =>
  simp only [Option.map_none]
  rw [mOpK_eq]
  cases mOp P env s st o with
  | some r => rfl
  | none => exact stepTK0_eq K
theorem callGOK_eq {dst : Option Nat} {f : FuncId} {args : List Operand} {x : V} {want : Bool} (K : St → Option V) : callGOK env st dst f args x want K = (callGO env st dst f args x want).bind K := by
 unfold callGOK callGO
 rw [argsK_eq, bind_assoc']
 congr 1
 funext l
 cases hn : nodupO (sitesO l) with
 | false => rfl
 | true =>
  simp only [bind_assoc']
  congr 1
  funext z
  cases hr : st.isRf dst with
  | true => rfl
  | false =>
   cases dst with
   | none => rfl
   | some d => simp only [bind_map']
theorem shTK_eq (K : St → Option V) : shTK P env ops s st o K = (shT P env ops s st o).bind K := by
 unfold shTK shT
 cases o.guard with
 | none => exact stepTK_eq K
 | some p =>
  simp only
  cases st.isRf (o.dst.map (· + 5000000)) with
  | true =>
   simp only
   cases (ops[p.1]?).bind (·.dst) with
   | none => rfl
   | some t =>
    cases callGF o with
    | none => rfl
    | some q => exact callGOK_eq K
  | false =>
  simp only
  rw [shOpK_eq]
  cases shOp P env ops s st o <;> rfl
theorem denHK_eq {nx0 : Nat} : ∀ (l : List Oper) (k : Nat) (st : St) (K : St → Option V), denHK P env ops nx0 l k st K = (denH P env ops nx0 l k st).bind K
 | [], _, _, _ => rfl
 | o :: r, k, st, K => by
  simp only [denHK, denH]
  rw [shOpK_eq]
  cases shOp P env ops (nx0 + k) st o with
  | none => rfl
  | some x => simp only [oS_]; exact denHK_eq r _ _ K
theorem denTK_eq {nx0 : Nat} : ∀ (l : List Oper) (k : Nat) (st : St) (K : St → Option V), denTK P env ops nx0 l k st K = (denT P env ops nx0 l k st).bind K
 | [], _, _, _ => rfl
 | o :: r, k, st, K => by
  simp only [denTK, denT]
  rw [shTK_eq]
  cases shT P env ops (nx0 + k) st o with
  | none => rfl
  | some x => simp only [oS_]; exact denTK_eq r _ _ K
theorem litV_bind {X : Option V} {K : C → Option V} : (X.bind fun y => (litV y).bind fun y => K (.v y)) = ((X.bind litV).map C.v).bind K := by
 cases X with
 | none => rfl
 | some y =>
  simp only [oS_]
  cases litV y <;> rfl
theorem fltK_eq (m : Bool) (K : C → Option V) : fltK P m st o K = (fltOp P m st o).bind K := by
 obtain ⟨dst, op, ty, pos, after, guard⟩ := o
 unfold fltK fltOp
 cases op <;> try rfl
 case slice t x lo hi mx =>
  cases mx with
  | some _ => rfl
  | none =>
   simp only
   cases sliceV P t (st.rd x) (lo.map st.rd) (hi.map st.rd) <;> rfl
 case binOp => exact litV_bind
 case extract x i => exact litV_bind
 case pick c x y => simp only; cases pickV (st.rd c) (st.rd x) (st.rd y) <;> rfl
 case indexAddr t x i =>
  cases m with
  | true => rfl
  | false =>
   simp only
   generalize st.ev x = c
   cases c with
   | v y => simp only; cases idxV P t y (st.rd i) <;> rfl
   | _ => rfl
 case fieldAddr t x f =>
  cases m with
  | false =>
   simp only
   generalize placeP P t f = p
   generalize st.ev x = c
   rcases p with _ | ⟨d, _ | n⟩ <;> try rfl
   cases c with
   | v y => simp only; cases ptrF d y <;> rfl
   | _ => rfl
  | true =>
   simp only
   generalize placeP P t f = p
   generalize st.ev x = c
   rcases p with _ | ⟨d, _ | n⟩ <;> try rfl
   cases c with
   | box s2 off =>
    obtain ⟨gs, o⟩ := off
    cases gs <;> rfl
   | _ => rfl
 case load t x =>
  cases m with
  | false =>
   simp only
   generalize st.ev x = c
   cases c with
   | v y => exact litV_bind
   | _ => rfl
  | true =>
   simp only
   generalize st.ev x = c
   cases c with
   | box s2 off =>
    obtain ⟨gs, o⟩ := off
    cases gs with
    | nil => exact litV_bind
    | cons => rfl
   | _ => rfl
theorem denFlK_eq {m : Bool} {nx0 : Nat} : ∀ (l : List Nat) (st : St) (K : St → Option V), denFlK P m ops nx0 l st K = (denFl P m ops nx0 l st).bind K
 | [], st, K => rfl
 | i :: r, st, K => by
  simp only [denFlK, denFl]
  cases ho : ops[i]? with
  | none => rfl
  | some o =>
   simp only
   cases hg : o.guard with
   | some p =>
    simp only
    cases (ops[p.1]?).bind (·.dst) with
    | none => rfl
    | some t =>
     simp only
     rw [fltK_eq]
     cases guardV (st.asV (st.φ t)) p.2 ((fltOp P m st o).bind onlyC) with
     | none => rfl
     | some y => simp only [oS_]; exact denFlK_eq r _ K
   | none =>
    simp only
    rw [fltK_eq]
    cases fltOp P m st o with
    | none => rfl
    | some c => simp only [oS_]; exact denFlK_eq r _ K
theorem denTlK_eq {nx0 : Nat} : ∀ (l : List Nat) (st : St) (K : St → Option V), denTlK P env ops nx0 l st K = (denTl P env ops nx0 l st).bind K
 | [], st, K => rfl
 | i :: r, st, K => by
  simp only [denTlK, denTl]
  cases ho : ops[i]? with
  | none => rfl
  | some o =>
   simp only
   rw [shTK_eq]
   cases shT P env ops (nx0 + i) st o with
   | none => rfl
   | some x => simp only [oS_]; exact denTlK_eq r _ K
theorem denRK_eq {draw : Bool} {n : Nat} (K : St → Option V) : denRK P env ops draw n st K = (denR P env ops draw n st).bind K := by
 unfold denRK denR
 cases draw with
 | false => exact denTK_eq _ _ _ _
 | true =>
  cases decide (n ≤ ops.size) with
  | true =>
   simp only
   rw [denHK_eq]
   cases denH P env ops st.nx (ops.toList.take n) 0 st with
   | none => rfl
   | some x => simp only [oS_]; exact denTK_eq _ _ _ _
  | false =>
   simp only
   rw [denFlK_eq]
   cases denFl P (mapsOnly ops) ops st.nx (fltL ops n) st with
   | none => rfl
   | some x => simp only [oS_]; exact denTlK_eq _ _ _
end
end Go.Proofs.YtgkohnjpnnofhaaGreat.Den
