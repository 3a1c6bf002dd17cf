/- A reader of Go code in plain values: calls that take and hand back what is owned; slices that own what lies in them. -/
import Derived.Test.YtgkohnjpnnofhaaGreatDenC
namespace Go.Proofs.YtgkohnjpnnofhaaGreat.Den
set_option linter.unusedSimpArgs false
set_option linter.unusedVariables false
set_option linter.unnecessarySimpa false
open Go.RowKit
def litO (P : Program) (s : Nat) (st : St) (dst : Option Nat) (t : TypeId) (n : Nat) (parts : List (Nat × Operand)) : Option St := match n, parts with
 | 1, [(0, x)] => (elemP P t).bind fun p => (giveC st s (st.ev x)).bind fun y => if y.1.length = p.2 ∧ p.2 ≤ 16777216 then some (({ dropO st y.2 with ow := upd (dropO st y.2).ow s (some (.osl p.2 [y.1])) } : St).put dst (.ref s [] [])) else none
 | _, _ => none
def objG (x : V) : Option V := match x with
 | .obj _ => some .any
 | _ => none
def argO (st : St) (c : C) : Option (V × Option Nat) := match c with
 | .ref s [] [] => (st.ow s).map fun x => (x, some s)
 | .adr s [] ⟨none, 0, _⟩ [] => (st.ow s).bind fun x => (objG x).map fun _ => (x, some s)
 | c => some (st.asV c, none)
def argsO (st : St) : List C → Option (List (V × Option Nat))
 | [] => some []
 | c :: r => (argO st c).bind fun x => (argsO st r).map (x :: ·)
def sitesO : List (V × Option Nat) → List Nat
 | [] => []
 | (_, some s) :: r => s :: sitesO r
 | (_, none) :: r => sitesO r
def nodupO : List Nat → Bool
 | [] => true
 | s :: r => !r.contains s && nodupO r
def backO (z : V) : List (V × Option Nat) → Nat → (Nat → Option V) → Nat → Option V
 | [], _, ow => ow
 | (_, some s) :: r, i, ow => backO z r (i + 1) (upd ow s (some (tupAt z (i + 1))))
 | (_, none) :: r, i, ow => backO z r (i + 1) ow
def afterO (st : St) (l : List (V × Option Nat)) (z : V) : St := { st with φ := fun t => killS (sitesO l) (st.φ t), ow := backO z l 0 st.ow }
def isRoot : C → Bool
 | .ref _ [] [] => true
 | .adr _ [] ⟨none, 0, _⟩ [] => true
 | _ => false
def callO (env : FuncId → List V → Option V) (s : Nat) (st : St) (dst : Option Nat) (f : FuncId) (args : List Operand) : Option St := (argsO st (args.map st.ev)).bind fun l => match nodupO (sitesO l) with
 | true => (if f < 1000000 then env (f + 1000000) (l.map (·.1)) else none).bind fun z => match st.isRf dst with
  | true => some ({ afterO st l z with ow := upd (afterO st l z).ow s (some (tupAt z 0)) }.put dst (.ref s [] []))
  | false => match dst with
   | none => some (afterO st l z)
   | some d => (pureO (tupAt z 0)).map fun y => (afterO st l z).put (some d) (.v y)
 | false => none
def callOC (env : FuncId → List V → Option V) (s : Nat) (st : St) (dst : Option Nat) (f : FuncId) (cs : List C) : Option St := (argsO st cs).bind fun l => match nodupO (sitesO l) with
 | true => (if f < 1000000 then env (f + 1000000) (l.map (·.1)) else none).bind fun z => match st.isRf dst with
  | true => some ({ afterO st l z with ow := upd (afterO st l z).ow s (some (tupAt z 0)) }.put dst (.ref s [] []))
  | false => match dst with
   | none => some (afterO st l z)
   | some d => (pureO (tupAt z 0)).map fun y => (afterO st l z).put (some d) (.v y)
 | false => none
def litCells : Value → Option (List V)
 | .agg cs => if cs.toList.all (fun u => u.oneCell') = true then some (cs.toList.map V.lit) else none
 | _ => none
def zeroN (P : Program) (t : TypeId) : Option (List V) := ((P.info? t).bind (·.zero)).bind litCells
def buildN (P : Program) (t : TypeId) (parts : List (Nat × V)) : Option V := match placesP P t, zeroN P t with
 | some ps, some z => match partsL ps parts with
  | some l => (fillL z l).map .agg
  | none => none
 | _, _ => none
theorem zeroN_ok {P : Program} {M : Mem} {t : TypeId} {z : List V} (h : zeroN P t = some z) : ∃ i v, P.info? t = some i ∧ i.zero = some v ∧ RelCells M v.cells z := by
 unfold zeroN at h
 obtain ⟨v, h1, h2⟩ := oB_ h
 obtain ⟨i, h3, h4⟩ := oB_ h1
 refine ⟨i, v, h3, h4, ?_⟩
 unfold litCells at h2
 split at h2
 ·rename_i cs
  split at h2
  ·rename_i ha
   obtain rfl := oJ_ h2
   show RelCells M cs _
   refine ⟨by simp, fun j x hx => ?_⟩
   rw [List.getElem?_map] at hx
   obtain ⟨u, hu, rfl⟩ := oM_ hx
   have hu2 : cs[j]? = some u := by simpa using hu
   have e : cs.getD j undef = u := by
    obtain ⟨hl, e⟩ := Array.getElem?_eq_some_iff.1 hu2
    simp [Array.getD, hl, e]
   rw [e]
   have := List.all_eq_true.1 ha u (List.mem_of_getElem? hu)
   exact ⟨this, .lit u this⟩
  ·cases h2
 ·cases h2
theorem buildN_ok {P : Program} {M : Mem} {w : World} {t : TypeId} {parts : List (Nat × V)} {vparts : Array (Nat × Value)} {y : V} (hl : vparts.toList.length = parts.length) (hp : ∀ (i : Nat) (p : Nat × V), parts[i]? = some p → ∃ v, vparts.toList[i]? = some (p.1, v) ∧ Rel M v p.2) (h : buildN P t parts = some y) :
  ∃ u, (Instr.build t vparts).run P w = .ok u w ∧ Rel M u y := by
 unfold buildN at h
 split at h
 ·rename_i ps z hps hz
  split at h
  ·rename_i l hpl
   obtain ⟨out, hf, rfl⟩ := oM_ h
   obtain ⟨i, zv, hi, hzv, hzr⟩ := zeroN_ok (M := M) hz
   obtain ⟨hp1, hp2⟩ := partsL_ok hpl
   obtain ⟨cells, h1, h2⟩ := fill_ok (place := (ps.toArray[·]?)) hzr hl hp hp1 (fun i p hip => by
    obtain ⟨q, hq1, hq2⟩ := hp2 i p hip
    exact ⟨q, by simpa using hq1, hq2⟩) hf
   refine ⟨.agg cells, run_build w t vparts cells ?_, .agg _ _ h2.1 (fun j hj => ?_) fun j x hx => (h2.2 j x hx).2⟩
   ·unfold placesP at hps
    unfold Program.built
    cases hu : P.underlying t with
    | none => simp [hu] at hps
    | some d =>
     cases d <;> simp only [hu, reduceCtorEq] at hps
     rename_i fs
     simp only [hi, hzv, hps]
     exact h1
   ·exact (h2.2 j _ (gE_ hj)).1
  ·cases h
 ·cases h
def allocN (P : Program) (s : Nat) (st : St) (dst : Option Nat) (t : TypeId) : Option St := match arrP P t with
 | some (n, k) => (zeroP P t).bind fun z => if z.length = n * k ∧ 0 < n ∧ n ≤ 65536 ∧ 0 < k then some (({ st with ow := upd st.ow s (some (.osl k (chunks k n z))) } : St).put dst (.adr s [] ⟨some 0, 0, k⟩ [])) else none
 | none => (zeroN P t).map fun z => ({ st with ow := upd st.ow s (some (.obj z)) } : St).put dst (.adr s [] ⟨none, 0, 0⟩ [])
def wholeO (P : Program) (t : TypeId) (x : V) : Option V := match x with
 | .obj l => match kindP P t with
  | some (some n) => if n = l.length then some (.agg l) else none
  | _ => none
 | _ => none
def rootA (c : C) : Option Nat := match c with
 | .adr s2 [] ⟨none, 0, _⟩ [] => some s2
 | _ => none
theorem rootA_some {c : C} {s : Nat} (h : rootA c = some s) : ∃ k, c = .adr s [] ⟨none, 0, k⟩ [] := by
 unfold rootA at h
 split at h
 ·obtain rfl := oJ_ h
  exact ⟨_, rfl⟩
 ·cases h
def takeL (P : Program) (s : Nat) (st : St) (dst : Option Nat) (t : TypeId) (c : C) : Option St := (rootA c).bind fun s2 => (st.ow s2).bind fun x => (wholeO P t x).map fun z => ({ dropO st (some s2) with ow := upd (dropO st (some s2)).ow s (some z) } : St).put dst (.ref s [] [])
def frzQ : V → V
 | .obj l => .ptr (frzL l)
 | _ => .any
def gateA : List (V × Bool) → V → V
 | [], y => y
 | p :: r, y => match p.1 with
  | .lit (.bool b) => if (b == p.2) = true then gateA r y else .any
  | _ => .any
theorem gateA_rel {M : Mem} {v : Value} {y : V} : ∀ {gs : List (V × Bool)}, ((∀ r ∈ gs, r.1 = .lit (.bool r.2)) → Rel M v y) → Rel M v (gateA gs y)
 | [], h => h (by simp)
 | p :: r, h => by
  unfold gateA
  split
  ·rename_i b hb
   split
   ·rename_i e
    refine gateA_rel (gs := r) fun hr => h fun q hq => ?_
    rcases List.mem_cons.1 hq with rfl | hq
    ·rw [hb]
     simp only [beq_iff_eq] at e
     rw [e]
    ·exact hr q hq
   ·exact .any _
  ·exact .any _
def frzC (x : V) (p : List Stp) : V := match getV x p with
 | some y => frz y
 | none => .any
def argB (st : St) (c : C) : V := match c with
 | .ref s [] gs => match st.ow s with
  | some x => gateA gs (frz x)
  | none => .any
 | .ref s (q :: p) gs => match st.ow s with
  | some x => gateA gs (frzC x (q :: p))
  | none => .any
 | .adr s [] ⟨none, 0, _⟩ gs => match st.ow s with
  | some x => gateA gs (frzQ x)
  | none => .any
 | c => st.asV c
def litQ (y : V) : Option V := match y.val? with
 | some _ => some y
 | none => none
def flatQ (y : V) : Option V := match y with
 | .sl rows => if (rows.all fun r => r.all fun x => x.val?.isSome) = true then some (.sl rows) else none
 | _ => none
def modeB (P : Program) (st : St) (o : Oper) : Option TypeId := match st.isRf (o.dst.map (· + 3000000)) with
 | true => (elemP P o.type).map (·.1)
 | false => match st.isRf (o.dst.map (· + 4000000)) with
  | true => some 987654321
  | false => none
def isLk : C → Bool
 | .ref _ _ _ => true
 | .adr _ [] ⟨none, 0, _⟩ _ => true
 | _ => false
def argsB {α : Type} (st : St) : List C → (List V → Option α) → Option α
 | [], K => K []
 | c :: r, K => match isLk c with
  | true => (some (argB st c)).bind fun y => argsB st r fun l => K (y :: l)
  | false => argsB st r fun l => K (st.asV c :: l)
theorem argB_pl {st : St} {c : C} (h : isLk c = false) : argB st c = st.asV c := by
 unfold isLk at h
 split at h
 ·cases h
 ·cases h
 ·rename_i h1 h2
  unfold argB
  split
  ·exact absurd rfl (h1 _ _ _)
  ·exact absurd rfl (h1 _ _ _)
  ·exact absurd rfl (h2 _ _ _)
  ·rfl
theorem argsB_eq {α : Type} {st : St} : ∀ (cs : List C) (K : List V → Option α), argsB st cs K = K (cs.map (argB st))
 | [], K => rfl
 | c :: r, K => by
  unfold argsB
  split
  ·rw [oS_, argsB_eq r]; rfl
  ·rename_i h; rw [argsB_eq r, ← argB_pl h]; rfl
def objQ : V → V
 | .obj l => .obj l
 | _ => .any
def argL (st : St) (c : C) : V := match c with
 | .ref s [] gs => match st.ow s with
  | some x => gateA gs x
  | none => .any
 | .adr s [] ⟨none, 0, _⟩ gs => match st.ow s with
  | some x => gateA gs (objQ x)
  | none => .any
 | c => st.asV c
def isLt : C → Bool
 | .ref _ [] _ => true
 | .adr _ [] ⟨none, 0, _⟩ _ => true
 | _ => false
def argsL {α : Type} (st : St) : List C → (List V → Option α) → Option α
 | [], K => K []
 | c :: r, K => match isLt c with
  | true => (some (argL st c)).bind fun y => argsL st r fun l => K (y :: l)
  | false => argsL st r fun l => K (st.asV c :: l)
theorem argL_pl {st : St} {c : C} (h : isLt c = false) : argL st c = st.asV c := by
 unfold isLt at h
 split at h
 ·cases h
 ·cases h
 ·rename_i h1 h2
  unfold argL
  split
  ·exact absurd rfl (h1 _ _)
  ·exact absurd rfl (h2 _ _ _)
  ·rfl
theorem argsL_eq {α : Type} {st : St} : ∀ (cs : List C) (K : List V → Option α), argsL st cs K = K (cs.map (argL st))
 | [], K => rfl
 | c :: r, K => by
  unfold argsL
  split
  ·rw [oS_, argsL_eq r]; rfl
  ·rename_i h; rw [argsL_eq r, ← argL_pl h]; rfl
theorem gateA_relT {hp : Hp} {M : Mem} {F : Nat → Prop} {v : Value} {y : V} {gs : List (V × Bool)} (h : (∀ r ∈ gs, r.1 = .lit (.bool r.2)) → RelT hp M F v y) : RelT hp M F v (gateA gs y) := by
 induction gs with
 | nil => exact h (by simp)
 | cons p r ih =>
  unfold gateA
  split
  ·rename_i b hb
   split
   ·rename_i e
    refine ih fun hr => h fun q hq => ?_
    rcases List.mem_cons.1 hq with rfl | hq
    ·rw [hb]
     simp only [beq_iff_eq] at e
     rw [e]
    ·exact hr q hq
   ·exact .pure _ _ _ (.any _)
  ·exact .pure _ _ _ (.any _)
def callBV (env : FuncId → List V → Option V) (st : St) (m : Option TypeId) (f : FuncId) (args : List Operand) : Option V := match m with
 | none => argsB st (args.map st.ev) fun l => (if f < 1000000 then env f l else none).bind litQ
 | some e => match decide (e = 987654321) with
  | true => argsL st (args.map st.ev) fun l => (if f < 1000000 then env (f + 1000000 * (987654321 + 2)) l else none).bind litQ
  | false => argsB st (args.map st.ev) fun l => (if f < 1000000 then env (f + 1000000 * (e + 2)) l else none).bind flatQ
theorem callBV_def {env : FuncId → List V → Option V} {st : St} {m : Option TypeId} {f : FuncId} {args : List Operand} : callBV env st m f args = match m with
  | none => (if f < 1000000 then env f (args.map fun x => argB st (st.ev x)) else none).bind litQ
  | some e => match decide (e = 987654321) with
   | true => (if f < 1000000 then env (f + 1000000 * (987654321 + 2)) (args.map fun x => argL st (st.ev x)) else none).bind litQ
   | false => (if f < 1000000 then env (f + 1000000 * (e + 2)) (args.map fun x => argB st (st.ev x)) else none).bind flatQ := by
 unfold callBV
 cases m with
 | none => simp only [argsB_eq, List.map_map]; rfl
 | some e =>
  simp only []
  cases decide (e = 987654321) with
  | true => simp only [argsL_eq, List.map_map]; rfl
  | false => simp only [argsB_eq, List.map_map]; rfl
def callB (env : FuncId → List V → Option V) (st : St) (dst : Option Nat) (m : Option TypeId) (f : FuncId) (args : List Operand) : Option St := (callBV env st m f args).map fun y => st.put dst (.v y)
def callGd (st : St) (o : Oper) : Option (FuncId × List Operand) := match o.op with
 | .call ⟨.value (.func f), args, _⟩ => match st.isRf (o.dst.map (· + 2000000)) with
  | true => some (f, args.toList)
  | false => none
 | _ => none
theorem callGd_op {st : St} {o : Oper} {f : FuncId} {l : List Operand} (h : callGd st o = some (f, l)) : ∃ args tys, o.op = .call ⟨.value (.func f), args, tys⟩ ∧ l = args.toList := by
 unfold callGd at h
 split at h
 ·rename_i f' args tys e
  split at h
  ·simp only [oE_, Prod.mk.injEq] at h
   obtain ⟨rfl, rfl⟩ := h
   exact ⟨args, tys, e, rfl⟩
  ·cases h
 ·cases h
def nilO (P : Program) (s : Nat) (st : St) (dst : Option Nat) (t : TypeId) (c : C) : Option St := match c with
 | .nil => (elemP P t).map fun p => ({ st with ow := upd st.ow s (some (.osl p.2 [])) } : St).put dst (.ref s [] [])
 | _ => none
def tailV (rows : List (List V)) (lo : V) : Option V := match boundL (some lo) 0 with
 | some l => if l ≤ rows.length then some (.sl (rows.drop l)) else none
 | none => none
def headV (rows : List (List V)) (hi mx : V) : Option V := match boundL (some hi) 0 with
 | some h => match boundL (some mx) 0 with
  | some m => if h = m ∧ h ≤ rows.length then some (.sl (rows.take h)) else none
  | none => none
 | none => none
def tailO (P : Program) (s : Nat) (st : St) (dst : Option Nat) (t : TypeId) (c : C) (f : List (List V) → Option V) : Option St := match c with
 | .row r => (elemP P t).bind fun p => (rowsAt st p.1 (.row r)).bind fun rows => (f rows).map fun x => ({ st with rw := upd (dropRow st (.row r)) s (some (p.1, slL x)) } : St).put dst (.row s)
 | _ => none
def partO (b sl : Bool) (s : Nat) (st : St) (dst : Option Nat) (c : C) (i : Nat) : Option St := match c with
 | .ref s2 [] [] => match st.ow s2 with
  | some (.tup l) => match sl with
   | true => match l[i]? with
    | some (.osl k rows) => some (({ st with ow := upd (upd st.ow s2 (some (.tup (l.set i .any)))) s (some (.osl k rows)) } : St).put dst (.ref s [] []))
    | _ => none
   | false => match b with
   | true => match l[i]? with
    | some (.obj cs) => some (({ st with ow := upd (upd st.ow s2 (some (.tup (l.set i .any)))) s (some (.obj cs)) } : St).put dst (.adr s [] ⟨none, 0, 0⟩ []))
    | some x => (pureO x).map fun y => st.put dst (.v y)
    | none => none
   | false => (l[i]?).bind fun x => (pureO x).map fun y => st.put dst (.v y)
  | _ => none
 | _ => none
def childO (P : Program) (st : St) (t : TypeId) (x : Operand) : Option (C × Option V) := addrOp P { st with rf := [0] } ⟨some 0, .load t x, t, "", #[], none⟩
def takeC (P : Program) (s : Nat) (st : St) (dst : Option Nat) (t : TypeId) (x : Operand) : Option St := match childO P st t x with
 | some (.ref s2 pa [], b) => b.bind fun _ => (takeO st s2 pa).map fun r => ({ r.2 with ow := upd r.2.ow s (some r.1) } : St).put dst (.ref s [] [])
 | _ => none
def aggC (x : V) : Option (List V) := match x with
 | .agg l => some l
 | _ => none
def apartP (ps : List (Nat × Nat)) (off : Nat) (i : Nat) : Bool := match ps[i]? with
 | some q => decide (off < q.1) || decide (q.1 + q.2 ≤ off)
 | none => false
def buildR (P : Program) (s : Nat) (st : St) (dst : Option Nat) (t : TypeId) (parts : List (Nat × Operand)) : Option St := match parts with
 | (i, x) :: r => match st.ev x with
  | .ref s2 [] [] => match st.ow s2 with
   | some (.mp l) => match (placesP P t).bind (·[i]?) with
    | some (off, 1) => match r.all fun p => apartP ((placesP P t).getD []) off p.1 with
     | true => (buildN P t ((i, .lit (.bool false)) :: r.map fun p => (p.1, st.rd p.2))).bind fun y => (aggC y).map fun cs => ({ dropO st (some s2) with ow := upd (dropO st (some s2)).ow s (some (.agg (cs.set off (.mp l)))) } : St).put dst (.ref s [] [])
     | false => none
    | _ => none
   | _ => none
  | _ => none
 | [] => none
def mOp (P : Program) (env : FuncId → List V → Option V) (s : Nat) (st : St) (o : Oper) : Option (Option St) := match o.op with
 | .call ⟨.builtin .append, args, tys⟩ => match args.toList, tys.toList with
  | [x, y], [t, t'] => match st.ev x with
   | .ref s2 pa gs => some (if t' = t then appO P s st o.dst t (.ref s2 pa gs) y else none)
   | .nil => match st.isRf o.dst with
    | true => some (if t' = t then appO P s st o.dst t .nil y else none)
    | false => none
   | _ => none
  | _, _ => none
 | .call ⟨.value (.func f), args, _⟩ => match st.isRf (o.dst.map (· + 1000000)) with
  | true => none
  | false => match st.isRf (o.dst.map (· + 2000000)) with
   | true => some (callB env st o.dst (modeB P st o) f args.toList)
   | false => match st.isRf o.dst || args.toList.any (fun x => isRoot (st.ev x)) with
    | true => some (callO env s st o.dst f args.toList)
    | false => none
 | .buildSlice t n parts => match st.isRf (o.dst.map (· + 1000000)) with
  | true => some (litO P s st o.dst t n parts.toList)
  | false => none
 | .build t parts => match st.isRf (o.dst.map (· + 1000000)) with
  | true => some ((buildN P t (parts.toList.map fun p => (p.1, st.rd p.2))).map fun v => st.put o.dst (.v v))
  | false => match st.isRf (o.dst.map (· + 2000000)) with
   | true => some (buildR P s st o.dst t parts.toList)
   | false => none
 | .alloc t => match st.isRf (o.dst.map (· + 1000000)) with
  | true => some (allocN P s st o.dst t)
  | false => none
 | .load t x => match st.isRf (o.dst.map (· + 1000000)) with
  | true => some (takeL P s st o.dst t (st.ev x))
  | false => match st.isRf (o.dst.map (· + 2000000)) with
   | true => some (takeC P s st o.dst t x)
   | false => none
 | .assign x => match st.isRf (o.dst.map (· + 1000000)) with
  | true => some (nilO P s st o.dst o.type (st.ev x))
  | false => none
 | .slice t x (some lo) none none => match st.isRf (o.dst.map (· + 1000000)) with
  | true => some (tailO P s st o.dst t (st.ev x) fun rows => tailV rows (st.rd lo))
  | false => none
 | .slice t x none (some hi) (some mx) => match st.isRf (o.dst.map (· + 1000000)) with
  | true => some (tailO P s st o.dst t (st.ev x) fun rows => headV rows (st.rd hi) (st.rd mx))
  | false => none
 | .extract x i => match st.ev x with
  | .ref s2 [] [] => some (partO (st.isRf o.dst) (st.isRf (o.dst.map (· + 2000000))) s st o.dst (.ref s2 [] []) i)
  | _ => none
 | _ => none
section
variable {P : Program} {Dw : World → Prop} {F0 : Par} {env : FuncId → List V → Option V} {base : Nat} {M0 : Mem} {w0 w : World} {N : Nat} {g : Ghost} {st : St} {a : Act} {o : Oper} {s : Nat}
theorem giveC_ok (hS : Sim P Dw F0 base M0 w0 N g st a w) {y : Operand} {cs : List V} {s2 : Option Nat} (h : giveC st s (st.ev y) = some (cs, s2)) :
  ∃ G : Nat → Nat → Prop, (a.eval y).cells.size = cs.length ∧ (∀ m z, cs[m]? = some z → ((a.eval y).cells.getD m undef).oneCell' = true ∧ RelT g.hp g.M (G m) ((a.eval y).cells.getD m undef) z) ∧ (∀ m m' q, G m q → G m' q → m = m') ∧ (∀ m q, G m q → ∃ ob, g.hp q = some ob) ∧
   ∀ m q s1 x1, G m q → (dropO st s2).ow s1 = some x1 → ¬ g.fp s1 q := by
 have pure : (st.asV (st.ev y)).cellsO = some cs → ∃ G : Nat → Nat → Prop, (a.eval y).cells.size = cs.length ∧ (∀ m z, cs[m]? = some z → ((a.eval y).cells.getD m undef).oneCell' = true ∧ RelT g.hp g.M (G m) ((a.eval y).cells.getD m undef) z) ∧ (∀ m m' q, G m q → G m' q → m = m') ∧ (∀ m q, G m q → ∃ ob, g.hp q = some ob) ∧
   ∀ m q s1 x1, G m q → (dropO st s2).ow s1 = some x1 → ¬ g.fp s1 q := fun h => by
  obtain ⟨h1, h2⟩ := cells_rel (hS.asV (hS.ev y)) h
  exact ⟨fun _ _ => False, h1, fun m z hz => ⟨(h2 m z hz).1, .pure _ _ _ (h2 m z hz).2⟩, fun _ _ _ h => h.elim, fun _ _ h => h.elim, fun _ _ _ _ h => h.elim⟩
 unfold giveC at h
 split at h
 ·rename_i s3 hev
  split at h
  ·cases h
  ·obtain ⟨z, hz, h⟩ := oB_ h
   obtain ⟨cs', hcs', e⟩ := oM_ h
   simp only [Prod.mk.injEq] at e
   obtain ⟨rfl, rfl⟩ := e
   have hyr := hS.ev y
   rw [hev] at hyr
   have hov := (hyr (by simp)).2
   simp only [walkV, oE_] at hov
   have hT := hS.own s3 z hz
   rw [hov] at hT
   obtain ⟨G, g1, g2, g3, g4⟩ := cellsT hT hcs'
   refine ⟨G, g1, g2, g4, fun m q hq => hS.fph s3 z q hz (g3 m q hq), fun m q s1 x1 hq h1 hf => ?_⟩
   have h1 : upd st.ow s3 none s1 = some x1 := h1
   by_cases e : s1 = s3
   ·subst e; rw [upd_same] at h1; cases h1
   ·rw [upd_ne _ _ e] at h1; exact hS.owd s3 s1 z x1 hz h1 (Ne.symm e) q (g3 m q hq) hf
 ·obtain ⟨cs', hcs', e⟩ := oM_ h
  simp only [Prod.mk.injEq] at e
  obtain ⟨rfl, rfl⟩ := e
  exact pure hcs'
theorem litO_ok (hS : Sim P Dw F0 base M0 w0 N g st a w) (hf : Fresh st s) {dst : Option Nat} (hd : ∀ d, dst = some d → d < N) {t : TypeId} {n : Nat} {parts : Array (Nat × Operand)} {st' : St} (h : litO P s st dst t n parts.toList = some st') :
  ∃ v w' g', (Instr.buildSlice t n (parts.map fun (i, x) => (i, a.eval x))).run P w = .ok v w' ∧ Sim P Dw F0 base M0 w0 N g' st' (a.put dst v) w' := by
 unfold litO at h
 split at h
 ·rename_i x hp
  have ep : parts = #[(0, x)] := by apply Array.toList_inj.1; exact hp
  subst ep
  obtain ⟨⟨e, k⟩, hel, h⟩ := oB_ h
  obtain ⟨⟨cs, s2⟩, hgive, h⟩ := oB_ h
  split at h
  ·rename_i hk9
   obtain ⟨hk, hkm⟩ := hk9
   obtain rfl := oJ_ h
   obtain ⟨bytes, el, hby, hsz⟩ := elemP_some hel
   simp only at el hsz hk hkm
   obtain ⟨i, z, hi, hz, hsize, hbyt, hzs⟩ := el.hi
   obtain ⟨G, g1, g2, g3, g4, g5⟩ := giveC_ok hS hgive
   have hvl : (a.eval x).cells.toList.length = k := by rw [Array.length_toList (xs := (a.eval x).cells), g1, hk]
   have hzz : ((Array.range (1 * i.size)).map (z.cells[· % z.cells.size]!)).size = k := by simp [hsize]
   obtain ⟨f1, f2⟩ := foldl_set 0 (a.eval x).cells.toList 0 ((Array.range (1 * i.size)).map (z.cells[· % z.cells.size]!)) (by rw [hvl, hzz]; omega)
   have e1 : (a.eval x).cells.zipIdx.foldl (fun cs (p : Value × Nat) => cs.setIfInBounds (0 * i.size + p.2) p.1) ((Array.range (1 * i.size)).map (z.cells[· % z.cells.size]!)) = ((a.eval x).cells.toList.zipIdx 0).foldl (fun cs (p : Value × Nat) => cs.setIfInBounds (0 + p.2) p.1) ((Array.range (1 * i.size)).map (z.cells[· % z.cells.size]!)) := by
    rw [← Array.foldl_toList]; simp
   have hfill : Instr.fill (fun j => some (j * i.size, i.size)) ((Array.range (1 * i.size)).map (z.cells[· % z.cells.size]!)) [(0, a.eval x)] = some (((a.eval x).cells.toList.zipIdx 0).foldl (fun cs (p : Value × Nat) => cs.setIfInBounds (0 + p.2) p.1) ((Array.range (1 * i.size)).map (z.cells[· % z.cells.size]!))) := by
    rw [← e1]
    have h1 : (a.eval x).cells.size = i.size := by rw [g1, hk, hsize]
    have h2 : ¬ (0 * i.size + (a.eval x).cells.size > ((Array.range (1 * i.size)).map (z.cells[· % z.cells.size]!)).size) := by rw [hzz, h1, hsize]; omega
    simp only [Instr.fill]
    rw [if_neg (by simp only [h1, ne_eq, not_true_eq_false, decide_false, Bool.false_or]; simpa [h1] using h2)]
   have hk0 := el.hk
   have hbig : ¬ 1 * i.size > 2 ^ 24 := by rw [hsize]; have : (2 : Nat) ^ 24 = 16777216 := by decide
                                           omega
   have hrun := run_buildSlice (P := P) w t e 1 #[(0, a.eval x)] _ i z el.ht hi hz hbig (by rw [hsize]; omega) hfill
   generalize ((a.eval x).cells.toList.zipIdx 0).foldl (fun cs (p : Value × Nat) => cs.setIfInBounds (0 + p.2) p.1) ((Array.range (1 * i.size)).map (z.cells[· % z.cells.size]!)) = cur at f1 f2 hrun
   rw [hzz] at f1
   have hS2 := hS.dropO s2
   obtain ⟨g', hS', hov⟩ := hS2.newTree (hf.dropO s2) (A := fun q => ∃ m, G m q) (F' := fun q => (∃ m, G m q) ∨ q = w.heap.size) (w' := w.alloc (.cells cur e)) (q0 := w.heap.size) (ob0 := .cells cur e (0, 0)) (v := .slice (some ⟨w.heap.size, 0, none⟩) 1 1) (z := .osl k [cs])
    (fun q ⟨m, h⟩ => g4 m q h) (fun s1 x1 q h1 ⟨m, h⟩ => g5 m q s1 x1 h h1) (.inr (Nat.le_refl _)) (by show (w.heap.push _)[w.heap.size]? = _; simp) ((Below.refl w.heap.size w).alloc (Nat.le_refl _) _).toF (by
     refine .osl _ w.heap.size 1 k cur e (0, 0) (fun j _ => by simp) [cs] G (.inr rfl) (upd_same _ _ _) (by rw [f1, Nat.one_mul]) (by simp) (by decide) (by simp [hk]) (fun i2 r hr j hj => ?_) (fun i2 r hr j z2 hz2 => ?_) (fun m q hq => ⟨.inl ⟨m, hq⟩, fun e => ?_⟩) g3
     ·have hi2 : i2 = 0 := by have := (gS_ hr).1; simp at this; exact this
      subst hi2
      rw [Nat.zero_mul, Nat.zero_add, f2, if_pos (by rw [hvl]; omega)]
      have := (g2 j _ (gE_ (by rw [hk]; exact hj))).1
      simpa using this
     ·have hi2 : i2 = 0 := by have := (gS_ hr).1; simp at this; exact this
      subst hi2
      simp only [List.getElem?_cons_zero, oE_] at hr
      subst hr
      have hj : j < k := by rw [← hk]; exact (gS_ hz2).1
      rw [Nat.zero_mul, Nat.zero_add, f2, if_pos (by rw [hvl]; omega)]
      have := ((g2 j z2 hz2).2).congr (hp' := upd g.hp w.heap.size (some (.cells cur e (0, 0)))) fun q hq => upd_ne _ _ fun e => by
       obtain ⟨ob, h⟩ := g4 j q hq
       have := (Array.getElem?_eq_some_iff.1 (hS.hp q ob h).2.1).1
       omega
      simpa using this
     ·obtain ⟨ob, h⟩ := g4 m q hq
      have := (Array.getElem?_eq_some_iff.1 (hS.hp q ob h).2.1).1
      omega) (fun q h => h)
   refine ⟨_, _, g', by simpa using hrun, Sim.put_ hS' hd ?_⟩
   intro _
   exact ⟨.inl rfl, by simp only [walkV, hov]⟩
  ·cases h
 ·cases h
theorem sitesO_mem : ∀ {l : List (V × Option Nat)} {s : Nat}, s ∈ sitesO l ↔ ∃ (i : Nat) (x : V), l[i]? = some (x, some s)
 | [], s => by simp [sitesO]
 | (x, none) :: r, s => by
  simp only [sitesO, sitesO_mem (l := r)]
  constructor
  ·rintro ⟨i, y, h⟩; exact ⟨i + 1, y, by simpa using h⟩
  ·rintro ⟨i, y, h⟩
   cases i with
   | zero => simp at h
   | succ i => exact ⟨i, y, by simpa using h⟩
 | (x, some s0) :: r, s => by
  simp only [sitesO, List.mem_cons, sitesO_mem (l := r)]
  constructor
  ·rintro (rfl | ⟨i, y, h⟩)
   ·exact ⟨0, x, rfl⟩
   ·exact ⟨i + 1, y, by simpa using h⟩
  ·rintro ⟨i, y, h⟩
   cases i with
   | zero => simp at h; exact .inl h.2.symm
   | succ i => exact .inr ⟨i, y, by simpa using h⟩
theorem nodupO_inj : ∀ {l : List (V × Option Nat)}, nodupO (sitesO l) = true → ∀ {i i' : Nat} {x x' : V} {s : Nat}, l[i]? = some (x, some s) → l[i']? = some (x', some s) → i = i'
 | [], _, i, i', x, x', s, h, _ => by simp at h
 | (y, none) :: r, hn, i, i', x, x', s, h, h' => by
  cases i with
  | zero => simp at h
  | succ i => cases i' with
   | zero => simp at h'
   | succ i' => exact congrArg (· + 1) (nodupO_inj (l := r) (i := i) (i' := i') (x := x) (x' := x') (s := s) hn (by simpa using h) (by simpa using h'))
 | (y, some s0) :: r, hn, i, i', x, x', s, h, h' => by
  simp only [sitesO, nodupO, Bool.and_eq_true, Bool.not_eq_true', List.contains_eq_mem, decide_eq_false_iff_not] at hn
  cases i with
  | zero => cases i' with
   | zero => rfl
   | succ i' =>
    simp at h
    exact absurd (sitesO_mem.2 ⟨i', x', by rw [h.2]; simpa using h'⟩) hn.1
  | succ i => cases i' with
   | zero =>
    simp at h'
    exact absurd (sitesO_mem.2 ⟨i, x, by rw [h'.2]; simpa using h⟩) hn.1
   | succ i' => exact congrArg (· + 1) (nodupO_inj (l := r) (i := i) (i' := i') (x := x) (x' := x') (s := s) hn.2 (by simpa using h) (by simpa using h'))
theorem backO_no {z : V} : ∀ {l : List (V × Option Nat)} {k : Nat} {ow : Nat → Option V} {s : Nat}, s ∉ sitesO l → backO z l k ow s = ow s
 | [], k, ow, s, h => rfl
 | (x, none) :: r, k, ow, s, h => by simp only [backO]; exact backO_no (l := r) h
 | (x, some s0) :: r, k, ow, s, h => by
  simp only [sitesO, List.mem_cons, not_or] at h
  simp only [backO]
  rw [backO_no (l := r) h.2, upd_ne _ _ h.1]
theorem backO_at {z : V} : ∀ {l : List (V × Option Nat)} {k : Nat} {ow : Nat → Option V} {s i : Nat} {x : V}, nodupO (sitesO l) = true → l[i]? = some (x, some s) → backO z l k ow s = some (tupAt z (k + i + 1))
 | [], k, ow, s, i, x, _, h => by simp at h
 | (y, none) :: r, k, ow, s, i, x, hn, h => by
  cases i with
  | zero => simp at h
  | succ i => simp only [backO]; rw [backO_at (l := r) hn (by simpa using h), show k + 1 + i + 1 = k + (i + 1) + 1 by omega]
 | (y, some s0) :: r, k, ow, s, i, x, hn, h => by
  simp only [sitesO, nodupO, Bool.and_eq_true, Bool.not_eq_true', List.contains_eq_mem, decide_eq_false_iff_not] at hn
  cases i with
  | zero =>
   simp at h
   obtain ⟨rfl, rfl⟩ := h
   simp only [backO]
   rw [backO_no hn.1, upd_same, Nat.add_zero]
  | succ i => simp only [backO]; rw [backO_at (l := r) hn.2 (by simpa using h), show k + 1 + i + 1 = k + (i + 1) + 1 by omega]
theorem argO_ok (hS : Sim P Dw F0 base M0 w0 N g st a w) {v : Value} {c : C} (hc : RelC g v c) {q : V × Option Nat} (h : argO st c = some q) :
  (∀ s, q.2 = some s → st.ow s = some q.1 ∧ v = g.ov s) ∧ (q.2 = none → Rel g.M v q.1) := by
 unfold argO at h
 split at h
 ·obtain ⟨x, hx, rfl⟩ := oM_ h
  refine ⟨fun s e => ?_, fun e => by cases e⟩
  obtain rfl := oJ_ e
  have := (hc (by simp)).2
  simp only [walkV, oE_] at this
  exact ⟨hx, this.symm⟩
 ·obtain ⟨x, hx, h⟩ := oB_ h
  obtain ⟨y, hy, rfl⟩ := oM_ h
  refine ⟨fun s e => ?_, fun e => by cases e⟩
  obtain rfl := oJ_ e
  refine ⟨hx, ?_⟩
  obtain ⟨_, u, b, h1, h2, h3⟩ := hc (by simp)
  simp only [walkV, oE_] at h1
  subst h1
  have hown := hS.own _ x hx
  unfold objG at hy
  split at hy
  ·generalize hvv : g.ov _ = vv at hown h2 ⊢
   cases hown with
   | pure _ _ _ h => exact absurd h rel_obj
   | obj _ b' cs ty fz hz l Fi hb hh hs h1 hr sub dis =>
    simp only [blockAt, oE_] at h2
    subst h2
    rw [h3]; rfl
  ·cases hy
 ·obtain rfl := oJ_ h
  exact ⟨fun s e => (by cases e), fun _ => hS.asV hc⟩
theorem argsC_ok (hS : Sim P Dw F0 base M0 w0 N g st a w) : ∀ {args : List Operand} {cs : List C} {l : List (V × Option Nat)}, cs.length = args.length → (∀ (i : Nat) (x : Operand) (c : C), args[i]? = some x → cs[i]? = some c → RelC g (a.eval x) c) → argsO st cs = some l → l.length = args.length ∧ ∀ (i : Nat) (q : V × Option Nat), l[i]? = some q → (∀ s, q.2 = some s → st.ow s = some q.1 ∧ (args.map a.eval).getD i undef = g.ov s) ∧ (q.2 = none → Rel g.M ((args.map a.eval).getD i undef) q.1)
 | [], [], l, _, _, h => by
  simp only [argsO, oE_] at h
  subst h
  exact ⟨rfl, by simp⟩
 | [], _ :: _, _, hl, _, _ => by simp at hl
 | _ :: _, [], _, hl, _, _ => by simp at hl
 | x :: r, c :: cr, l, hl, hc, h => by
  simp only [argsO] at h
  obtain ⟨q, hq, h⟩ := oB_ h
  obtain ⟨l', hl', rfl⟩ := oM_ h
  obtain ⟨h1, h2⟩ := argsC_ok hS (args := r) (cs := cr) (by simpa using hl) (fun i x' c' h1 h2 => hc (i + 1) x' c' (by simpa using h1) (by simpa using h2)) hl'
  refine ⟨by simp [h1], fun i q' hq' => ?_⟩
  cases i with
  | zero =>
   simp at hq'
   subst hq'
   exact argO_ok hS (hc 0 x c rfl rfl) hq
  | succ i => simpa using h2 i q' (by simpa using hq')
theorem callOC_ok (henv : EnvOk P Dw env) (hS : Sim P Dw F0 base M0 w0 N g st a w) (hf : Fresh st s) (hd : ∀ d, o.dst = some d → d < N) {f : FuncId} {args : Array Operand} {tys : Array TypeId} {st' : St} (hop : o.op = .call ⟨.value (.func f), args, tys⟩) {cs : List C} (hcl : cs.length = args.toList.length) (hcr : ∀ (i : Nat) (x : Operand) (c : C), args.toList[i]? = some x → cs[i]? = some c → RelC g (a.eval x) c) (h : callOC env s st o.dst f cs = some st') :
  OpOk P o a w fun v w' => ∃ g', Sim P Dw F0 base M0 w0 N g' st' (a.put o.dst v) w' := by
 classical
 unfold callOC at h
 obtain ⟨l, hl, h⟩ := oB_ h
 split at h
 rotate_left
 ·cases h
 rename_i hnd
 obtain ⟨z, hz, h⟩ := oB_ h
 obtain ⟨hll, hargs⟩ := argsC_ok hS hcl hcr hl
 split at hz
 rotate_left
 ·cases hz
 rename_i hlim
 obtain ⟨⟨fn, hfn, hname, hbody⟩, hcall⟩ := henv.2.1 _ _ _ hlim hz
 have hname : ¬ fn.name = "runtime.NumGoroutine" := by simpa using hname
 have hbody : ¬ fn.body = none := by intro h; rw [h] at hbody; simp at hbody
 have hrun : (execOp a.eval o).run P w = .ok (.enter f (args.map a.eval ++ #[])) w := by
  obtain ⟨dst, op, ty, pos, after, guard⟩ := o
  simp only at hop
  subst hop
  simp [execOp, resolve, Act.eval, Deferred.ofValue, invoke, callFunc, program, Sem.run, hfn, hname, hbody]
 unfold OpOk
 rw [hrun]
 simp only [Array.append_empty]
 let F : Nat → Nat → Prop := fun i q => ∃ x s', l[i]? = some (x, some s') ∧ g.fp s' q
 let A : Nat → Prop := fun q => ∃ i, F i q
 have hAh : ∀ q, A q → ∃ ob, g.hp q = some ob := fun q ⟨i, x, s', h1, h2⟩ => hS.fph s' _ q ((hargs i _ h1).1 s' rfl).1 h2
 have hAo : ∀ q, A q → base ≤ q ∨ F0.F q := fun q hq => by obtain ⟨ob, h⟩ := hAh q hq; exact (hS.hp q ob h).1
 have hval : ∀ i, (args.map a.eval).getD i undef = (args.toList.map a.eval).getD i undef := fun i => by simp
 have hlt : ∀ q, A q → q < w.heap.size := fun q hq => by obtain ⟨ob, h⟩ := hAh q hq; exact (Array.getElem?_eq_some_iff.1 (hS.hp q ob h).2.1).1
 refine (hcall w g.M (fun q => if A q then g.hp q else none) F (args.map a.eval) (fun w' hb => hS.inv w' (hS.below.trans ⟨hb.os, hb.tape, hb.output, hb.size, fun k hk hn => hb.block k (Nat.lt_of_lt_of_le hk hS.base_le) fun h => ?_⟩)) hS.mem (fun q ob hq => ?_) (fun i q hq => ?_) (fun i i' q h1 h2 => ?_) (by simp [hll]) (fun i x hx => ?_)).mono fun e w' hp => ?_
 ·rcases hAo k h with h | h
  ·omega
  ·exact hn h
 ·split at hq
  ·obtain ⟨_, p2, p3, _⟩ := hS.hp q ob hq
   exact ⟨p2, p3⟩
  ·cases hq
 ·have hA : A q := ⟨i, hq⟩
  rw [if_pos hA]; exact hAh q hA
 ·obtain ⟨x, s', e1, f1⟩ := h1
  obtain ⟨x', s'', e2, f2⟩ := h2
  by_cases e : s' = s''
  ·subst e; exact nodupO_inj hnd e1 e2
  ·exact absurd f2 (hS.owd s' s'' _ _ ((hargs i _ e1).1 s' rfl).1 ((hargs i' _ e2).1 s'' rfl).1 e q f1)
 ·rw [List.getElem?_map] at hx
  obtain ⟨q, hq, rfl⟩ := oM_ hx
  rw [hval]
  obtain ⟨x, so⟩ := q
  cases so with
  | none => exact .pure _ _ _ ((hargs i _ hq).2 rfl)
  | some s' =>
   obtain ⟨k1, k2⟩ := (hargs i _ hq).1 s' rfl
   rw [k2]
   refine ((hS.own s' x k1).congr fun q hq2 => ?_).weak fun q hq2 => ⟨x, s', hq, hq2⟩
   exact if_pos (show A q from ⟨i, x, s', hq, hq2⟩)
 obtain ⟨v, M', hp', F', rfl, hB, hmono, hmem, hfresh, hhp, hFh, hFd, hr0, hri⟩ := hp
 refine ⟨v, rfl, ?_⟩
 let hpN : Hp := fun q => if A q ∨ w.heap.size ≤ q then hp' q else g.hp q
 have hN : ∀ i q, F' i q → hpN q = hp' q := fun i q hq => by
  obtain ⟨ob, h⟩ := hFh i q hq
  have := (hhp q ob h).1
  exact if_pos (this.symm)
 have hNo : ∀ s1 x1 q, s1 ∉ sitesO l → st.ow s1 = some x1 → g.fp s1 q → hpN q = g.hp q := fun s1 x1 q hn h1 hq => by
  obtain ⟨ob, h⟩ := hS.fph s1 x1 q h1 hq
  have h5 := (Array.getElem?_eq_some_iff.1 (hS.hp q ob h).2.1).1
  refine if_neg fun hh => ?_
  rcases hh with ⟨i, x, s', h2, h3⟩ | hh
  ·by_cases e : s1 = s'
   ·subst e; exact hn (sitesO_mem.2 ⟨i, x, h2⟩)
   ·exact hS.owd s1 s' x1 _ h1 ((hargs i _ h2).1 s' rfl).1 e q hq h3
  ·omega
 have hsf : s ∉ sitesO l := fun h => by
  obtain ⟨i, x, h⟩ := sitesO_mem.1 h
  have := ((hargs i _ h).1 s rfl).1
  rw [hf.2.2.2.1] at this; cases this
 have hxl : ∀ i x, l[i]? = some x → i < (l.map (·.1)).length := fun i x h => by rw [List.length_map]; exact (gS_ h).1
 -- the state behind the call, with a tree y at the new site or not
 have main : ∀ (own : Bool), Sim P Dw F0 base M0 w0 N ⟨M', g.loc, g.val, hpN, if own = true then upd g.ov s v else g.ov, fun s1 q => (s1 = s ∧ own = true ∧ F' 0 q) ∨ (∃ i x, l[i]? = some (x, some s1) ∧ F' (i + 1) q) ∨ (s1 ≠ s ∧ s1 ∉ sitesO l ∧ g.fp s1 q), if own = true then upd (afterO st l z).ow s (some (tupAt z 0)) else (afterO st l z).ow⟩ { afterO st l z with ow := if own = true then upd (afterO st l z).ow s (some (tupAt z 0)) else (afterO st l z).ow } a w' := by
  intro own
  have how : ∀ s1 x1, (if own = true then upd (afterO st l z).ow s (some (tupAt z 0)) else (afterO st l z).ow) s1 = some x1 → (s1 = s ∧ own = true ∧ x1 = tupAt z 0) ∨ (s1 ≠ s ∧ ∃ i x, l[i]? = some (x, some s1) ∧ x1 = tupAt z (i + 1)) ∨ (s1 ≠ s ∧ s1 ∉ sitesO l ∧ st.ow s1 = some x1) := fun s1 x1 h1 => by
   have rest : s1 ≠ s → (afterO st l z).ow s1 = some x1 → (s1 = s ∧ own = true ∧ x1 = tupAt z 0) ∨ (s1 ≠ s ∧ ∃ i x, l[i]? = some (x, some s1) ∧ x1 = tupAt z (i + 1)) ∨ (s1 ≠ s ∧ s1 ∉ sitesO l ∧ st.ow s1 = some x1) := fun e h1 => by
    by_cases hm : s1 ∈ sitesO l
    ·obtain ⟨i, x, h2⟩ := sitesO_mem.1 hm
     have h1 : backO z l 0 st.ow s1 = some x1 := h1
     rw [backO_at hnd h2, Nat.zero_add] at h1
     exact .inr (.inl ⟨e, i, x, h2, (oJ_ h1).symm⟩)
    ·have h1 : backO z l 0 st.ow s1 = some x1 := h1
     rw [backO_no hm] at h1
     exact .inr (.inr ⟨e, hm, h1⟩)
   by_cases e : s1 = s
   ·subst e
    cases own with
    | true => simp only [if_true, upd_same, oE_] at h1; exact .inl ⟨rfl, rfl, h1.symm⟩
    | false =>
     have h1 : backO z l 0 st.ow s1 = some x1 := h1
     rw [backO_no hsf, hf.2.2.2.1] at h1; cases h1
   ·cases own with
    | true => simp only [if_true] at h1; rw [upd_ne _ _ e] at h1; exact rest e h1
    | false => exact rest e h1
  have hov : ∀ s1, s1 ≠ s → (if own = true then upd g.ov s v else g.ov) s1 = g.ov s1 := fun s1 e => by
   split
   ·exact upd_ne _ _ e
   ·rfl
  have hdis : ∀ s1 s3 x1 x3, s1 ≠ s3 → ((s1 = s ∧ own = true ∧ x1 = tupAt z 0) ∨ (s1 ≠ s ∧ ∃ i x, l[i]? = some (x, some s1) ∧ x1 = tupAt z (i + 1)) ∨ (s1 ≠ s ∧ s1 ∉ sitesO l ∧ st.ow s1 = some x1)) → ((s3 = s ∧ own = true ∧ x3 = tupAt z 0) ∨ (s3 ≠ s ∧ ∃ i x, l[i]? = some (x, some s3) ∧ x3 = tupAt z (i + 1)) ∨ (s3 ≠ s ∧ s3 ∉ sitesO l ∧ st.ow s3 = some x3)) →
    ∀ q, ((s1 = s ∧ own = true ∧ F' 0 q) ∨ (∃ i x, l[i]? = some (x, some s1) ∧ F' (i + 1) q) ∨ (s1 ≠ s ∧ s1 ∉ sitesO l ∧ g.fp s1 q)) → ((s3 = s ∧ own = true ∧ F' 0 q) ∨ (∃ i x, l[i]? = some (x, some s3) ∧ F' (i + 1) q) ∨ (s3 ≠ s ∧ s3 ∉ sitesO l ∧ g.fp s3 q)) → False := by
   intro s1 s3 x1 x3 hne k1 k3 q q1 q3
   have new : ∀ i q s4 x4, F' i q → s4 ∉ sitesO l → st.ow s4 = some x4 → g.fp s4 q → False := fun i q s4 x4 h1 h2 h3 h4 => by
    obtain ⟨ob, h5⟩ := hFh i q h1
    obtain ⟨ob2, h6⟩ := hS.fph s4 x4 q h3 h4
    have h7 := (Array.getElem?_eq_some_iff.1 (hS.hp q ob2 h6).2.1).1
    rcases (hhp q ob h5).1 with h8 | ⟨i2, x, s', h8, h9⟩
    ·omega
    ·by_cases e : s4 = s'
     ·subst e; exact h2 (sitesO_mem.2 ⟨i2, x, h8⟩)
     ·exact hS.owd s4 s' x4 _ h3 ((hargs i2 _ h8).1 s' rfl).1 e q h4 h9
   have old : ∀ s4 x4, s4 ∉ sitesO l → ((s4 = s ∧ own = true ∧ x4 = tupAt z 0) ∨ (s4 ≠ s ∧ ∃ i x, l[i]? = some (x, some s4) ∧ x4 = tupAt z (i + 1)) ∨ (s4 ≠ s ∧ s4 ∉ sitesO l ∧ st.ow s4 = some x4)) → s4 ≠ s → st.ow s4 = some x4 := fun s4 x4 hn h hs => by
    rcases h with ⟨h, _⟩ | ⟨_, i, x, h, _⟩ | ⟨_, _, h⟩
    ·exact absurd h hs
    ·exact absurd (sitesO_mem.2 ⟨i, x, h⟩) hn
    ·exact h
   rcases q1 with ⟨e1, _, q1⟩ | ⟨i1, y1, e1, q1⟩ | ⟨n1, e1, q1⟩ <;> rcases q3 with ⟨e3, _, q3⟩ | ⟨i3, y3, e3, q3⟩ | ⟨n3, e3, q3⟩
   ·exact hne (e1.trans e3.symm)
   ·have := hFd _ _ q q1 q3; omega
   ·exact new _ q s3 x3 q1 e3 (old s3 x3 e3 k3 n3) q3
   ·have := hFd _ _ q q1 q3; omega
   ·have := hFd _ _ q q1 q3
    have : i1 = i3 := by omega
    subst this
    rw [e1] at e3
    simp only [oE_, Prod.mk.injEq] at e3
    exact hne e3.2
   ·exact new _ q s3 x3 q1 e3 (old s3 x3 e3 k3 n3) q3
   ·exact new _ q s1 x1 q3 e1 (old s1 x1 e1 k1 n1) q1
   ·exact new _ q s1 x1 q3 e1 (old s1 x1 e1 k1 n1) q1
   ·exact hS.owd s1 s3 x1 x3 (old s1 x1 e1 k1 n1) (old s3 x3 e3 k3 n3) hne q q1 q3
  refine hS.step2 (st' := { afterO st l z with ow := if own = true then upd (afterO st l z).ow s (some (tupAt z 0)) else (afterO st l z).ow }) (A := A) hB hmono hmem hfresh hAh (fun q ob hq => ?_) rfl rfl (fun s1 h1 => hov s1 (by have := hf.2.2.2.2; omega)) (fun t => ?_) (fun s1 x1 h1 => ?_) (fun s1 x1 q h1 hq => ?_) (fun s1 s3 x1 x3 h1 h3 hne q q1 q3 => ?_)
  ·have hq : (if A q ∨ w.heap.size ≤ q then hp' q else g.hp q) = some ob := hq
   split at hq
   ·rename_i hc
    obtain ⟨_, h2, h3⟩ := hhp q ob hq
    exact .inr ⟨hc, h2, h3⟩
   ·rename_i hc
    exact .inl ⟨fun h => hc (.inl h), Nat.lt_of_not_le fun h => hc (.inr h), hq⟩
  ·have hsl := hS.slot t
   refine relC_g (g := g) hsl (killS_g (sitesO l) _) hmono rfl rfl (fun s' h' => hov s' fun e => hf.1 t (by rw [h', e])) (fun s' p x y hg h' hp hx hy => ?_)
   have hns : s' ∉ sitesO l := by simpa using hg
   have hne : s' ≠ s := fun e => hf.1 t (by rw [h', e])
   rw [hS.gow] at hx
   refine ⟨?_, walk_congr p (hS.own s' x hx) hy fun q hq => hNo s' x q hns hx hq⟩
   have hb : (afterO st l z).ow s' = some x := by show backO z l 0 st.ow s' = some x; rw [backO_no hns]; exact hx
   show (if own = true then upd (afterO st l z).ow s (some (tupAt z 0)) else (afterO st l z).ow) s' = some x
   split
   ·rw [upd_ne _ _ hne]; exact hb
   ·exact hb
  ·rcases how s1 x1 h1 with ⟨rfl, rfl, rfl⟩ | ⟨hne, i, x, h2, rfl⟩ | ⟨hne, h2, h3⟩
   ·simp only [if_true, upd_same]
    exact (hr0.congr fun q hq => hN 0 q hq).weak fun q hq => .inl ⟨trivial, trivial, hq⟩
   ·rw [hov s1 hne]
    have := hri i (hxl i _ h2)
    rw [hval, ((hargs i _ h2).1 s1 rfl).2] at this
    exact (this.congr fun q hq => hN _ q hq).weak fun q hq => .inr (.inl ⟨i, x, h2, hq⟩)
   ·rw [hov s1 hne]
    exact (((hS.own s1 x1 h3).mono hmono).congr fun q hq => hNo s1 x1 q h2 h3 hq).weak fun q hq => .inr (.inr ⟨hne, h2, hq⟩)
  ·rcases hq with ⟨_, _, hq⟩ | ⟨i, x, _, hq⟩ | ⟨hne, h2, hq⟩
   ·rw [hN _ q hq]; exact hFh _ q hq
   ·rw [hN _ q hq]; exact hFh _ q hq
   ·rcases how s1 x1 h1 with ⟨e, _⟩ | ⟨_, i, x, h3, _⟩ | ⟨_, _, h3⟩
    ·exact absurd e hne
    ·exact absurd (sitesO_mem.2 ⟨i, x, h3⟩) h2
    ·rw [hNo s1 x1 q h2 h3 hq]; exact hS.fph s1 x1 q h3 hq
  ·exact hdis s1 s3 x1 x3 hne (how s1 x1 h1) (how s3 x3 h3) q q1 q3
 split at h
 ·obtain rfl := oJ_ h
  refine ⟨_, Sim.put_ (main true) hd ?_⟩
  intro _
  exact ⟨.inl rfl, by simp only [walkV, if_true, upd_same]⟩
 ·split at h
  ·rename_i hdst
   obtain rfl := oJ_ h
   rw [hdst]
   exact ⟨_, main false⟩
  ·rename_i d hdst
   obtain ⟨y, hy, rfl⟩ := oM_ h
   rw [hdst]
   refine ⟨_, Sim.put_ (main false) (fun d' e => hd d' (by rw [hdst]; exact e)) ?_⟩
   unfold pureO at hy
   split at hy
   ·rename_i hpv
    obtain rfl := oJ_ hy
    exact hr0.pureV hpv
   ·cases hy
theorem callO_ok (henv : EnvOk P Dw env) (hS : Sim P Dw F0 base M0 w0 N g st a w) (hf : Fresh st s) (hd : ∀ d, o.dst = some d → d < N) {f : FuncId} {args : Array Operand} {tys : Array TypeId} {st' : St} (hop : o.op = .call ⟨.value (.func f), args, tys⟩) (h : callO env s st o.dst f args.toList = some st') :
  OpOk P o a w fun v w' => ∃ g', Sim P Dw F0 base M0 w0 N g' st' (a.put o.dst v) w' :=
 callOC_ok henv hS hf hd hop (cs := args.toList.map st.ev) (by simp) (fun i x c hx hc => by
  rw [List.getElem?_map, hx] at hc
  obtain rfl := oJ_ hc
  exact hS.ev x) h
theorem allocN_ok (hS : Sim P Dw F0 base M0 w0 N g st a w) (hf : Fresh st s) {dst : Option Nat} (hd : ∀ d, dst = some d → d < N) {t : TypeId} {st' : St} (h : allocN P s st dst t = some st') :
  ∃ v w' g', (Instr.alloc t true (.tuple #[])).run P w = .ok v w' ∧ Sim P Dw F0 base M0 w0 N g' st' (a.put dst v) w' := by
 unfold allocN at h
 split at h
 ·rename_i n k hk
  obtain ⟨z, hz, h⟩ := oB_ h
  split at h
  rotate_left
  ·cases h
  rename_i hc
  obtain ⟨hzl, hn0, hn, hk0⟩ := hc
  obtain rfl := oJ_ h
  obtain ⟨i, zv, hi, hzv, hzr⟩ := zero_ok (M := g.M) hz
  have hcl : (chunks k n z).length = n := chunks_len n z
  have hrow : ∀ i r, (chunks k n z)[i]? = some r → ∀ j, j < k → i < n ∧ r[j]? = z[i * k + j]? ∧ i * k + j < z.length := fun i r hi j hj => by
   obtain ⟨rfl, hin⟩ := chunks_at n z i r hi
   refine ⟨hin, ?_, ?_⟩
   ·rw [List.getElem?_take, if_pos hj, List.getElem?_drop]
   ·have : (i + 1) * k ≤ n * k := Nat.mul_le_mul_right _ hin
    rw [Nat.add_mul] at this; omega
  have main : RelT (upd g.hp w.heap.size (some (.cells zv.cells t (0, 0)))) g.M (fun q => q = w.heap.size) (.slice (some ⟨w.heap.size, 0, none⟩) (chunks k n z).length n) (.osl k (chunks k n z)) := by
   refine .osl _ w.heap.size n k zv.cells t (0, 0) (noFz0 _) _ (fun _ _ => False) rfl (upd_same _ _ _) (by rw [hzr.1, hzl]) (by omega) (by unfold maxLen; omega) (chunks_row n z hzl) (fun i r hi j hj => ?_) (fun i r hi j x hx => ?_) (fun _ _ h => h.elim) (fun _ _ _ h => h.elim)
   ·obtain ⟨_, h2, h3⟩ := hrow i r hi j hj
    exact (hzr.2 _ _ (gE_ h3)).1
   ·have hj : j < k := by
     have := chunks_row n z hzl r (List.mem_of_getElem? hi)
     rw [← this]; exact (gS_ hx).1
    obtain ⟨_, h2, h3⟩ := hrow i r hi j hj
    rw [h2] at hx
    exact .pure _ _ _ (hzr.2 _ _ hx).2
  have hrel := hS.alloc_ (s := s) (w' := w.alloc (.cells zv.cells t)) hf (grow_cells hS.mem _).1 (by simp) (cs := zv.cells) (ty := t) (fz := (0, 0)) (by show (w.heap.push _)[w.heap.size]? = _; simp)
   (x := .osl k (chunks k n z)) (v := .slice (some ⟨w.heap.size, 0, none⟩) (chunks k n z).length n) (F := fun q => q = w.heap.size) main (fun q hq => .inl hq) (fresh_notin hS)
  refine ⟨_, _, _, (by simp [Instr.alloc, zeroValue, typeInfo, hi, hzv, newVar, newRow] : (Instr.alloc t true (.tuple #[])).run P w = .ok (.pointer (some ⟨w.heap.size, 0, none⟩)) (w.alloc (.cells zv.cells t))), Sim.put_ hrel hd ?_⟩
  intro _
  exact ⟨.inl rfl, _, w.heap.size, by simp only [walkV, upd_same]; rfl, rfl, by simp [Stp.abs]⟩
 obtain ⟨z, hz, rfl⟩ := oM_ h
 obtain ⟨i, zv, hi, hzv, hzr⟩ := zeroN_ok (M := g.M) hz
 have hrel := hS.alloc_ (s := s) (w' := w.alloc (.cells zv.cells t)) hf (grow_cells hS.mem _).1 (by simp) (cs := zv.cells) (ty := t) (fz := (0, 0)) (by show (w.heap.push _)[w.heap.size]? = _; simp)
  (x := .obj z) (v := .pointer (some ⟨w.heap.size, 0, none⟩)) (F := fun q => q = w.heap.size)
  (.obj _ w.heap.size zv.cells t (0, 0) (noFz0 _) z (fun _ _ => False) rfl (upd_same _ _ _) hzr.1 (fun i hi => (hzr.2 i _ (gE_ hi)).1) (fun i x hx => .pure _ _ _ (hzr.2 i x hx).2) (fun _ _ h => h.elim) (fun _ _ _ h => h.elim)) (fun q hq => .inl hq) (fresh_notin hS)
 refine ⟨_, _, _, (by simp [Instr.alloc, zeroValue, typeInfo, hi, hzv, newVar, newRow] : (Instr.alloc t true (.tuple #[])).run P w = .ok (.pointer (some ⟨w.heap.size, 0, none⟩)) (w.alloc (.cells zv.cells t))), Sim.put_ hrel hd ?_⟩
 intro _
 exact ⟨.inl rfl, _, w.heap.size, by simp only [walkV, upd_same]; rfl, rfl, rfl⟩
theorem wholeO_ok (hS : Sim P Dw F0 base M0 w0 N g st a w) {t : TypeId} {s2 : Nat} {x z : V} (hx : st.ow s2 = some x) (hz : wholeO P t x = some z) {b : Nat} (hb : blockAt (g.ov s2) = some b) :
  ∃ (cs : Array Value) (F : Nat → Prop), (loadVar t ⟨b, 0, none⟩).run P w = .ok (.agg cs) w ∧ RelT g.hp g.M F (.agg cs) z ∧ ∀ q, F q → g.fp s2 q := by
 unfold wholeO at hz
 split at hz
 ·rename_i l
  split at hz
  ·rename_i n hk
   split at hz
   ·rename_i hn
    obtain rfl := oJ_ hz
    have hT := hS.own s2 _ hx
    generalize hv : g.ov s2 = v at hT hb
    cases hT with
    | pure _ _ _ h => exact absurd h rel_obj
    | obj _ b' cs ty fz hfz l Fi hb' hh hs h1 hr sub dis =>
     simp only [blockAt, oE_] at hb
     subst hb
     have hw := (hS.hp b' _ hh).2.1
     have hrun := run_loadCells_list (P := P) (w := w) ⟨b', 0, none⟩ cs.toList (fun j u hu => by
      rw [addr_add, Nat.zero_add]
      simp only [World.cell?, hw]
      simpa using hu)
     have hka : aggP P t = some true ∧ sizeP P t = some n := by
      unfold kindP at hk
      cases ha : aggP P t with
      | none => simp [ha] at hk
      | some bb =>
       cases hsz : sizeP P t with
       | none => cases bb <;> simp [ha, hsz] at hk
       | some m => cases bb <;> simp_all
     have hlen : cs.toList.length = n := by rw [Array.length_toList (xs := cs), hs, hn]
     rw [hlen] at hrun
     exact ⟨cs, fun q => ∃ i, Fi i q, by simp [loadVar, run_isAgg hka.1, run_sizeP hka.2, hrun], .agg _ cs l Fi hs h1 hr (fun i q h => ⟨i, h⟩) dis, fun q ⟨i, h⟩ => (sub i q h).1⟩
   ·cases hz
  ·cases hz
 ·cases hz
theorem splice_set {c cs c2 : List V} {o k off : Nat} {y : V} (h : spliceO c o k cs = some c2) (hd : off < o ∨ o + k ≤ off) : spliceO (c.set off y) o k cs = some (c2.set off y) := by
 obtain ⟨h1, h2, rfl⟩ := spliceO_some h
 unfold spliceO
 rw [if_pos ⟨h1, by simpa using h2⟩]
 congr 1
 subst h1
 refine List.ext_getElem? fun i => ?_
 rw [splice_at (by simpa using h2) i, List.getElem?_set, List.getElem?_set]
 have hl : (c.take o ++ cs ++ c.drop (o + cs.length)).length = c.length := splice_len h2
 rw [hl, splice_at h2 i]
 by_cases e : off = i
 ·subst e
  rw [if_neg (by omega), if_pos rfl, if_pos rfl]
 ·rw [if_neg e, if_neg e]
theorem fillL_set {off : Nat} {y : V} : ∀ {l : List (Nat × Nat × V)} {c out : List V}, fillL c l = some out → (∀ p ∈ l, off < p.1 ∨ p.1 + p.2.1 ≤ off) → off < c.length → fillL (c.set off y) l = some (out.set off y) ∧ off < out.length
 | [], c, out, h, _, ho => by
  simp only [fillL, oE_] at h ⊢
  subst h
  exact ⟨rfl, ho⟩
 | p :: l, c, out, h, hd, ho => by
  simp only [fillL] at h ⊢
  obtain ⟨cs, hcs, h⟩ := oB_ h
  obtain ⟨c2, hc2, h⟩ := oB_ h
  have hlen : c2.length = c.length := by
   obtain ⟨h1, h2, rfl⟩ := spliceO_some hc2
   rw [← h1] at h2 ⊢
   exact splice_len h2
  rw [hcs, oS_, splice_set hc2 (hd p (by simp)), oS_]
  exact fillL_set h (fun q hq => hd q (by simp [hq])) (by omega)
theorem buildN_sub {P : Program} {t : TypeId} {i off : Nat} {rs : List (Nat × V)} {y : V} (hq : (placesP P t).bind (·[i]?) = some (off, 1)) (hd : rs.all (fun p => apartP ((placesP P t).getD []) off p.1) = true) (h : buildN P t ((i, .lit (.bool false)) :: rs) = some y) :
  ∃ cs, y = .agg cs ∧ off < cs.length ∧ ∀ c, c.cellsO = some [c] → buildN P t ((i, c) :: rs) = some (.agg (cs.set off c)) := by
 unfold buildN at h
 split at h
 rotate_left
 ·cases h
 rename_i ps z hps hz
 rw [hps] at hq hd
 simp only [oS_] at hq
 split at h
 rotate_left
 ·cases h
 rename_i l hl
 obtain ⟨out, hout, rfl⟩ := oM_ h
 simp only [partsL, hq] at hl
 split at hl
 rotate_left
 ·cases hl
 rename_i l0 hl0
 obtain rfl := oJ_ hl
 simp only [fillL, show (V.lit (.bool false)).cellsO = some [V.lit (.bool false)] from rfl, oS_] at hout
 obtain ⟨c1, hc1, hout⟩ := oB_ hout
 have hap : ∀ p ∈ l0, off < p.1 ∨ p.1 + p.2.1 ≤ off := fun p hp => by
  obtain ⟨j, hj⟩ := List.getElem?_of_mem hp
  obtain ⟨e1, e2⟩ := partsL_ok hl0
  have hjl : j < rs.length := by rw [← e1]; exact (gS_ hj).1
  obtain ⟨q, hq1, hq2⟩ := e2 j _ (gE_ hjl)
  rw [hj] at hq2
  obtain rfl := oJ_ hq2
  have := List.all_eq_true.1 hd _ (List.getElem_mem hjl)
  unfold apartP at this
  simp only [Option.getD_some, hq1, Bool.or_eq_true, decide_eq_true_eq] at this
  exact this
 obtain ⟨g1, g2, g3⟩ := spliceO_some hc1
 have hc1l : off < c1.length := by
  rw [g3]
  have := splice_len (l := z) (cs := [V.lit (.bool false)]) (off := off) (by simpa using g2)
  simp only [List.length_singleton] at this
  rw [this]; omega
 refine ⟨out, rfl, (fillL_set (y := .lit (.bool false)) hout hap hc1l).2, fun c hc => ?_⟩
 obtain ⟨f1, -⟩ := fillL_set (y := c) hout hap hc1l
 unfold buildN
 simp only [hps, hz, partsL, hq, hl0, fillL, hc, oS_]
 have e : spliceO z off 1 [c] = some (c1.set off c) := by
  unfold spliceO
  rw [if_pos ⟨rfl, g2⟩, g3]
  congr 1
  refine List.ext_getElem? fun j => ?_
  have h1 := splice_at (l := z) (cs := [c]) (off := off) (by simpa using g2) j
  have h2 := splice_at (l := z) (cs := [V.lit (.bool false)]) (off := off) (by simpa using g2) j
  simp only [List.length_singleton] at h1 h2
  have h3 := splice_len (l := z) (cs := [V.lit (.bool false)]) (off := off) (by simpa using g2)
  simp only [List.length_singleton] at h3
  rw [h1, List.getElem?_set, h3, h2]
  by_cases ej : off = j
  ·subst ej
   rw [if_pos (by omega), if_pos rfl, if_pos (by omega)]
   simp
  ·rw [if_neg (by omega), if_neg ej, if_neg (by omega)]
 rw [e, oS_, f1]
 rfl
theorem buildR_ok (hS : Sim P Dw F0 base M0 w0 N g st a w) (hf : Fresh st s) {dst : Option Nat} (hd : ∀ d, dst = some d → d < N) {t : TypeId} {parts : Array (Nat × Operand)} {st' : St} (h : buildR P s st dst t parts.toList = some st') :
  ∃ v g', (Instr.build t (parts.map fun (i, x) => (i, a.eval x))).run P w = .ok v w ∧ Sim P Dw F0 base M0 w0 N g' st' (a.put dst v) w := by
 unfold buildR at h
 split at h
 rotate_left
 ·cases h
 rename_i i x r hparts
 split at h
 rotate_left
 ·cases h
 rename_i s2 hev
 split at h
 rotate_left
 ·cases h
 rename_i l hx0
 split at h
 rotate_left
 ·cases h
 rename_i off hq
 split at h
 rotate_left
 ·cases h
 rename_i hap
 obtain ⟨y, hy, h⟩ := oB_ h
 obtain ⟨cs0, hcs0, rfl⟩ := oM_ h
 obtain ⟨cs, rfl, hoff, hsub⟩ := buildN_sub hq (by simpa using hap) hy
 obtain rfl := oJ_ hcs0
 have hxr := hS.ev x
 rw [hev] at hxr
 obtain ⟨_, hwk⟩ := hxr (by simp)
 simp only [walkV, oE_] at hwk
 have hown := hS.own s2 _ hx0
 rw [hwk] at hown
 have hone : (a.eval x).oneCell' = true := by
  generalize a.eval x = vx at hown
  cases hown with
  | pure _ _ _ h => exact absurd h rel_mp
  | mp => rfl
 have hb := hsub (.lit (a.eval x)) (by simp [V.cellsO])
 obtain ⟨u, h1, h2⟩ := buildN_ok (M := g.M) (w := w) (vparts := parts.map fun p => (p.1, a.eval p.2)) (by simp [hparts]) (fun j p hp => by
  cases j with
  | zero =>
   simp only [List.getElem?_cons_zero, oE_] at hp
   subst hp
   exact ⟨a.eval x, by simp [hparts], .lit _ hone⟩
  | succ j =>
   simp only [List.getElem?_cons_succ, List.getElem?_map] at hp
   obtain ⟨q, hq, rfl⟩ := oM_ hp
   exact ⟨a.eval q.2, by simp [hparts, hq], hS.rd q.2⟩) hb
 obtain ⟨cv, rfl, hc1, hc2⟩ := rel_agg h2
 have hcat : cv.getD off undef = a.eval x := by
  have := (hc2 off (.lit (a.eval x)) (by rw [List.getElem?_set_self hoff])).2
  exact (rel_lit this).1
 have hT : RelT g.hp g.M (g.fp s2) (.agg cv) (.agg (cs.set off (.mp l))) := by
  refine .agg _ cv _ (fun j q => j = off ∧ g.fp s2 q) (by rw [hc1]; simp) (fun j hj => ?_) (fun j z hz => ?_) (fun j q hq => hq.2) (fun j j' q h h' => h.1.trans h'.1.symm)
  ·exact (hc2 j _ (gE_ (by simpa using hj))).1
  ·by_cases e : j = off
   ·subst e
    rw [List.getElem?_set_self hoff] at hz
    obtain rfl := oJ_ hz
    rw [hcat]
    exact hown.weak fun q hq => ⟨rfl, hq⟩
   ·rw [List.getElem?_set_ne (Ne.symm e)] at hz
    exact .pure _ _ _ (hc2 j z (by rw [List.getElem?_set_ne (Ne.symm e)]; exact hz)).2
 refine ⟨.agg cv, _, h1, Sim.put_ ((hS.dropO (some s2)).newSite (hf.dropO _) (x := .agg (cs.set off (.mp l))) (v := .agg cv) (F := g.fp s2) hT (fun q h => hS.fph s2 _ q hx0 h) (fun s1 x1 h5 q h h6 => ?_)) hd ?_⟩
 ·have h5 : upd st.ow s2 none s1 = some x1 := h5
  by_cases e : s1 = s2
  ·subst e; rw [upd_same] at h5; cases h5
  ·rw [upd_ne _ _ e] at h5
   exact hS.owd s2 s1 _ x1 hx0 h5 (Ne.symm e) q h h6
 ·intro _
  exact ⟨.inl rfl, by simp only [walkV, upd_same]⟩
theorem buildR_some {dst : Option Nat} {t : TypeId} {parts : List (Nat × Operand)} {st' : St} (h : buildR P s st dst t parts = some st') : ∃ s2 z, st' = ({ dropO st (some s2) with ow := upd (dropO st (some s2)).ow s (some z) } : St).put dst (.ref s [] []) := by
 unfold buildR at h
 split at h
 rotate_left
 ·cases h
 split at h
 rotate_left
 ·cases h
 split at h
 rotate_left
 ·cases h
 split at h
 rotate_left
 ·cases h
 split at h
 rotate_left
 ·cases h
 obtain ⟨y, hy, h⟩ := oB_ h
 obtain ⟨cs0, hcs0, rfl⟩ := oM_ h
 exact ⟨_, _, rfl⟩
theorem takeL_ok (hS : Sim P Dw F0 base M0 w0 N g st a w) (hf : Fresh st s) {dst : Option Nat} (hd : ∀ d, dst = some d → d < N) {t : TypeId} {x : Operand} {st' : St} (h : takeL P s st dst t (st.ev x) = some st') :
  ∃ v g', (Instr.loadAt t (a.eval x)).run P w = .ok v w ∧ Sim P Dw F0 base M0 w0 N g' st' (a.put dst v) w := by
 unfold takeL at h
 obtain ⟨s2, hr, h⟩ := oB_ h
 obtain ⟨k0, hev⟩ := rootA_some hr
 obtain ⟨x0, hx0, h⟩ := oB_ h
 obtain ⟨z, hz, rfl⟩ := oM_ h
 have hxr := hS.ev x
 rw [hev] at hxr
 obtain ⟨_, u, b, h1, h2, h3⟩ := hxr (by simp)
 simp only [walkV, oE_] at h1
 subst h1
 obtain ⟨cs, F, hrun, hT, hF⟩ := wholeO_ok hS hx0 hz h2
 refine ⟨.agg cs, _, ?_, Sim.put_ ((hS.dropO (some s2)).newSite (hf.dropO _) (x := z) (v := .agg cs) (F := F) hT (fun q h => hS.fph s2 _ q hx0 (hF q h)) (fun s1 x1 h5 q h h6 => ?_)) hd ?_⟩
 ·rw [h3]
  simp [Stp.abs, Instr.loadAt, Instr.sureAddr, hrun]
 ·have h5 : upd st.ow s2 none s1 = some x1 := h5
  by_cases e : s1 = s2
  ·subst e; rw [upd_same] at h5; cases h5
  ·rw [upd_ne _ _ e] at h5
   exact hS.owd s2 s1 _ x1 hx0 h5 (Ne.symm e) q (hF q h) h6
 ·intro _
  exact ⟨.inl rfl, by simp only [walkV, upd_same]⟩
theorem takeC_ok (hS : Sim P Dw F0 base M0 w0 N g st a w) (hf : Fresh st s) {dst : Option Nat} (hd : ∀ d, dst = some d → d < N) {t : TypeId} {x : Operand} {st' : St} (h : takeC P s st dst t x = some st') :
  ∃ v g', (Instr.loadAt t (a.eval x)).run P w = .ok v w ∧ Sim P Dw F0 base M0 w0 N g' st' (a.put dst v) w := by
 unfold takeC at h
 split at h
 rotate_left
 ·cases h
 rename_i s2 pa b hc
 obtain ⟨z, hz, h⟩ := oB_ h
 obtain ⟨r, hr, rfl⟩ := oM_ h
 have hS2 : Sim P Dw F0 base M0 w0 N g { st with rf := [0] } a w := { hS with }
 obtain ⟨_, _, h3⟩ := addrOp_ok hS2 hc
 obtain ⟨v, h4, h5⟩ := h3 z hz
 obtain ⟨g1, FX, k1, k2, k3, k4, k5, k6, k7⟩ := take_ok hS h5 (x := r.1) (st1 := r.2) hr
 refine ⟨v, _, ?_, Sim.put_ (k1.newSite (k7 s hf) (x := r.1) (v := v) (F := FX) (by rw [k2, k3]; exact k4) (fun q hq => by rw [k2]; exact k5 q hq) (fun s1 x1 h6 q hq => k6 s1 x1 q h6 hq)) hd ?_⟩
 ·cases hl : (Instr.loadAt t (a.eval x)).run P w with
  | halt e w' => simp [execOp, hl] at h4
  | ok u w' =>
   have : (execOp a.eval ⟨some 0, .load t x, t, "", #[], none⟩).run P w = .ok (.value u) w' := by
    simp only [execOp, Sem.run_bind, hl, Result.andThen_ok, Sem.run_pure]
   rw [this] at h4
   simp only [Result.ok.injEq, Next.value.injEq] at h4
   rw [h4.1, h4.2]
 ·intro _
  exact ⟨.inl rfl, by simp only [walkV, upd_same]⟩
theorem nilO_ok (hS : Sim P Dw F0 base M0 w0 N g st a w) (hf : Fresh st s) {dst : Option Nat} (hd : ∀ d, dst = some d → d < N) {t : TypeId} {x : Operand} {st' : St} (h : nilO P s st dst t (st.ev x) = some st') :
  ∃ g', Sim P Dw F0 base M0 w0 N g' st' (a.put dst (a.eval x)) w := by
 unfold nilO at h
 split at h
 ·rename_i hev
  obtain ⟨p, hp, rfl⟩ := oM_ h
  have hxr := hS.ev x
  rw [hev] at hxr
  have hv : a.eval x = .slice none 0 0 := hxr
  rw [hv]
  refine ⟨_, Sim.put_ (hS.newSite hf (x := .osl p.2 []) (v := .slice none 0 0) (F := fun _ => False) (.oslNil _ _) (fun q h => h.elim) (fun s1 x1 h5 q h h6 => h.elim)) hd ?_⟩
  intro _
  exact ⟨.inl rfl, by simp only [walkV, upd_same]⟩
 ·cases h
theorem relT_tup {hp : Hp} {M : Mem} {F : Nat → Prop} {v : Value} {l : List V} (h : RelT hp M F v (.tup l)) : ∃ (cs : Array Value) (Fi : Nat → Nat → Prop), v = .tuple cs ∧ cs.size = l.length ∧ (∀ i x, l[i]? = some x → RelT hp M (Fi i) (cs.getD i undef) x) ∧ (∀ i q, Fi i q → F q) ∧ ∀ i i' q, Fi i q → Fi i' q → i = i' := by
 cases h with
 | pure _ _ _ h =>
  cases h with
  | tup cs l hs hr => exact ⟨cs, fun _ _ => False, rfl, hs, fun i x hx => .pure _ _ _ (hr i x hx), fun _ _ h => h.elim, fun _ _ _ h => h.elim⟩
 | tup _ cs l Fi hs hr sub dis => exact ⟨cs, Fi, rfl, hs, hr, sub, dis⟩
theorem relT_obj {hp : Hp} {M : Mem} {F : Nat → Prop} {v : Value} {l : List V} (h : RelT hp M F v (.obj l)) : ∃ b, v = .pointer (some ⟨b, 0, none⟩) := by
 cases h with
 | pure _ _ _ h => exact absurd h rel_obj
 | obj _ b => exact ⟨b, rfl⟩
theorem getV_tup {l : List V} {p : List Stp} {y : V} (hp : p ≠ []) (h : getV (.tup l) p = some y) : False := by
 cases p with
 | nil => exact hp rfl
 | cons s p => simp [getV, stepX] at h
open Classical in
theorem part_sim (hS : Sim P Dw F0 base M0 w0 N g st a w) (hf : Fresh st s) {s2 i : Nat} {l : List V} {cs : Array Value} {Fi : Nat → Nat → Prop} {x0 : V} (hl : st.ow s2 = some (.tup l)) (hv : g.ov s2 = .tuple cs) (hs : cs.size = l.length)
  (hr : ∀ j z, l[j]? = some z → RelT g.hp g.M (Fi j) (cs.getD j undef) z) (sub : ∀ j q, Fi j q → g.fp s2 q) (dis : ∀ j j' q, Fi j q → Fi j' q → j = j') (hi : l[i]? = some x0) :
  Sim P Dw F0 base M0 w0 N { g with ov := upd g.ov s (cs.getD i undef), fp := upd (upd g.fp s2 fun q => g.fp s2 q ∧ ¬ Fi i q) s (Fi i), ow := upd (upd st.ow s2 (some (.tup (l.set i .any)))) s (some x0) } { st with ow := upd (upd st.ow s2 (some (.tup (l.set i .any)))) s (some x0) } a w := by
 have hne : s ≠ s2 := fun e => by rw [← e, hf.2.2.2.1] at hl; cases hl
 have hlt := (gS_ hi).1
 refine { hS with slot := fun t => ?_, own := fun s' x' hs' => ?_, fph := fun s' x' q hs' hq => ?_, owd := fun s3 s4 x3 x4 h3 h4 hn q q3 q4 => ?_, gow := rfl, ovp := fun s' hs' => by show upd g.ov s _ s' = _; rw [upd_ne _ _ (by have := hf.2.2.2.2; omega)]; exact hS.ovp s' hs' }
 ·have h := hS.slot t
  have hnt := hf.1 t
  show RelC _ _ (st.φ t)
  have key : ∀ s' (p : List Stp), s' ≠ s → (p = [] ∨ ∃ x y, g.ow s' = some x ∧ getV x p = some y) → (p = [] ∨ ∃ x y, upd (upd st.ow s2 (some (.tup (l.set i .any)))) s (some x0) s' = some x ∧ getV x p = some y) := fun s' p hn hp => by
   rcases hp with hp | ⟨x, y, h1, h2⟩
   ·exact .inl hp
   ·by_cases hp : p = []
    ·exact .inl hp
    ·right
     rw [hS.gow] at h1
     by_cases e : s' = s2
     ·subst e
      rw [hl] at h1
      obtain rfl := oJ_ h1
      exact (getV_tup hp h2).elim
     ·exact ⟨x, y, by rw [upd_ne _ _ hn, upd_ne _ _ e]; exact h1, h2⟩
  cases hc : st.φ t with
  | v x => rw [hc] at h; exact h
  | nil => rw [hc] at h; exact h
  | box s' off => rw [hc] at h; exact h
  | row s' => rw [hc] at h; exact h
  | adr s' p q gs =>
   rw [hc] at h hnt
   have hn : s' ≠ s := fun e => hnt (by rw [e]; rfl)
   simp only [RelC] at h ⊢
   intro hg
   obtain ⟨h1, h2⟩ := h hg
   exact ⟨key s' p hn h1, by rw [upd_ne _ _ hn]; exact h2⟩
  | ref s' p gs =>
   rw [hc] at h hnt
   have hn : s' ≠ s := fun e => hnt (by rw [e]; rfl)
   simp only [RelC] at h ⊢
   intro hg
   obtain ⟨h1, h2⟩ := h hg
   exact ⟨key s' p hn h1, by rw [upd_ne _ _ hn]; exact h2⟩
 ·by_cases e : s' = s
  ·subst e
   simp only [upd_same, oE_] at hs' ⊢
   subst hs'
   exact hr i _ hi
  ·simp only [upd_ne _ _ e] at hs' ⊢
   by_cases e2 : s' = s2
   ·subst e2
    simp only [upd_same, oE_] at hs' ⊢
    subst hs'
    rw [hv]
    refine .tup _ cs _ (fun j => if j = i then fun _ => False else Fi j) (by rw [List.length_set]; exact hs) (fun j z hz => ?_) (fun j q hq => ?_) (fun j j' q hq hq' => ?_)
    ·by_cases ej : j = i
     ·subst ej
      rw [List.getElem?_set_self hlt] at hz
      obtain rfl := oJ_ hz
      exact .pure _ _ _ (.any _)
     ·rw [List.getElem?_set_ne (Ne.symm ej)] at hz
      simp only [if_neg ej]
      exact hr j z hz
    ·by_cases ej : j = i
     ·simp only [if_pos ej] at hq
     ·simp only [if_neg ej] at hq
      exact ⟨sub j q hq, fun h => ej (dis j i q hq h)⟩
    ·by_cases ej : j = i
     ·simp only [if_pos ej] at hq
     ·by_cases ej' : j' = i
      ·simp only [if_pos ej'] at hq'
      ·simp only [if_neg ej] at hq
       simp only [if_neg ej'] at hq'
       exact dis j j' q hq hq'
   ·simp only [upd_ne _ _ e2] at hs' ⊢
    exact hS.own s' x' hs'
 ·by_cases e : s' = s
  ·subst e
   simp only [upd_same] at hq
   exact hS.fph s2 _ q hl (sub i q hq)
  ·simp only [upd_ne _ _ e] at hs' hq
   by_cases e2 : s' = s2
   ·subst e2
    simp only [upd_same] at hq
    exact hS.fph s' _ q hl hq.1
   ·simp only [upd_ne _ _ e2] at hs' hq
    exact hS.fph s' x' q hs' hq
 ·have oth : ∀ s' x' q, s' ≠ s → upd (upd st.ow s2 (some (.tup (l.set i .any)))) s (some x0) s' = some x' → upd (upd g.fp s2 fun q => g.fp s2 q ∧ ¬ Fi i q) s (Fi i) s' q → g.fp s' q ∧ (∃ x, st.ow s' = some x) ∧ ¬ Fi i q := fun s' x' q hn h1 h2 => by
   simp only [upd_ne _ _ hn] at h1 h2
   by_cases e2 : s' = s2
   ·subst e2
    simp only [upd_same] at h2
    exact ⟨h2.1, ⟨_, hl⟩, h2.2⟩
   ·simp only [upd_ne _ _ e2] at h1 h2
    exact ⟨h2, ⟨_, h1⟩, fun h => hS.owd s2 s' _ x' hl h1 (Ne.symm e2) q (sub i q h) h2⟩
  by_cases e3 : s3 = s <;> by_cases e4 : s4 = s
  ·exact hn (e3.trans e4.symm)
  ·have := (oth s4 x4 q e4 h4 q4).2.2
   subst e3
   simp only [upd_same] at q3
   exact this q3
  ·have := (oth s3 x3 q e3 h3 q3).2.2
   subst e4
   simp only [upd_same] at q4
   exact this q4
  ·obtain ⟨a3, ⟨y3, b3⟩, _⟩ := oth s3 x3 q e3 h3 q3
   obtain ⟨a4, ⟨y4, b4⟩, _⟩ := oth s4 x4 q e4 h4 q4
   exact hS.owd s3 s4 y3 y4 b3 b4 hn q a3 a4
theorem partO_ok (hS : Sim P Dw F0 base M0 w0 N g st a w) (hf : Fresh st s) {dst : Option Nat} (hd : ∀ d, dst = some d → d < N) {x : Operand} {i : Nat} {c : C} (hev : st.ev x = c) {st' : St} {b sl : Bool} (h : partO b sl s st dst c i = some st') :
  ∃ v g', (Instr.extract (a.eval x) i).run P w = .ok v w ∧ Sim P Dw F0 base M0 w0 N g' st' (a.put dst v) w := by
 unfold partO at h
 split at h
 rotate_left
 ·cases h
 rename_i s2
 split at h
 rotate_left
 ·cases h
 rename_i l hl
 have hxr := hS.ev x
 rw [hev] at hxr
 have hov := (hxr (by simp)).2
 simp only [walkV, oE_] at hov
 have hT := hS.own s2 _ hl
 obtain ⟨cs, Fi, hv, hs, hr, sub, dis⟩ := relT_tup hT
 have hrun : ∀ y, l[i]? = some y → (Instr.extract (a.eval x) i).run P w = .ok (cs.getD i undef) w := fun y hy => by
  have hlt : i < cs.size := by rw [hs]; exact (gS_ hy).1
  rw [← hov, hv]
  simp [Instr.extract, hlt, Array.getD]
 split at h
 ·split at h
  ·rename_i k rows hi
   obtain rfl := oJ_ h
   refine ⟨_, _, hrun _ hi, Sim.put_ (part_sim hS hf hl hv hs hr sub dis hi) hd ?_⟩
   intro _
   exact ⟨.inl rfl, by simp only [walkV, upd_same]⟩
  ·cases h
 split at h
 rotate_left
 ·obtain ⟨y, hi, h⟩ := oB_ h
  obtain ⟨z, hz, rfl⟩ := oM_ h
  unfold pureO at hz
  split at hz
  ·rename_i hp
   obtain rfl := oJ_ hz
   exact ⟨_, _, hrun _ hi, hS.put_ hd ((hr i _ hi).pureV hp)⟩
  ·cases hz
 split at h
 ·rename_i o hi
  obtain rfl := oJ_ h
  obtain ⟨b, hb⟩ := relT_obj (hr i _ hi)
  refine ⟨_, _, hrun _ hi, Sim.put_ (part_sim hS hf hl hv hs hr sub dis hi) hd ?_⟩
  intro _
  refine ⟨.inl rfl, cs.getD i undef, b, by simp only [walkV, upd_same], by rw [hb]; rfl, ?_⟩
  rw [hb]
  simp [Stp.abs]
 ·rename_i y hy hi
  obtain ⟨z, hz, rfl⟩ := oM_ h
  unfold pureO at hz
  split at hz
  ·rename_i hp
   obtain rfl := oJ_ hz
   exact ⟨_, _, hrun _ hi, hS.put_ hd ((hr i _ hi).pureV hp)⟩
  ·cases hz
 ·cases h
theorem lits?_at : ∀ {l : List V} {vs : List Value}, lits? l = some vs → ∀ (i : Nat) (x : V), l[i]? = some x → ∃ u, x = .lit u
 | [], _, _, i, x, h => by simp at h
 | y :: r, vs, h, i, x, hx => by
  cases y with
  | lit v =>
   simp only [lits?] at h
   obtain ⟨vs', h1, _⟩ := oM_ h
   cases i with
   | zero => simp at hx; exact ⟨v, hx.symm⟩
   | succ i => exact lits?_at h1 i x (by simpa using hx)
  | _ => simp [lits?] at h
theorem rel_valQ {M M' : Mem} {v : Value} {y z : V} (hz : litQ y = some z) (h : Rel M v y) : Rel M' v z := by
 unfold litQ at hz
 split at hz
 ·rename_i u hu
  obtain rfl := oJ_ hz
  cases h with
  | lit v h => exact .lit v h
  | agg cs l hs h1 hr =>
   simp only [V.val?] at hu
   obtain ⟨vs, h2, _⟩ := oM_ hu
   refine .agg cs l hs h1 fun i x hx => ?_
   obtain ⟨u', rfl⟩ := lits?_at h2 i x hx
   have := hr i _ hx
   generalize cs.getD i undef = q at this ⊢
   cases this with
   | lit _ h => exact .lit _ h
  | _ => simp [V.val?] at hu
 ·cases hz
theorem callB_ok (henv : EnvOk P Dw env) (hS : Sim P Dw F0 base M0 w0 N g st a w) (hd : ∀ d, o.dst = some d → d < N) {f : FuncId} {m : Option TypeId} {args : Array Operand} {tys : Array TypeId} (hop : o.op = .call ⟨.value (.func f), args, tys⟩) {st' : St} (h : callB env st o.dst m f args.toList = some st') :
  OpOk P o a w fun v w' => ∃ g', Sim P Dw F0 base M0 w0 N g' st' (a.put o.dst v) w' := by
 classical
 unfold callB at h
 obtain ⟨y, hy1, rfl⟩ := oM_ h
 let G : Nat → Prop := fun q => ∃ s x, st.ow s = some x ∧ g.fp s q
 have hG : ∀ q, G q → ∀ o, g.M q o = none := fun q ⟨s', x, h1, h2⟩ => by
  obtain ⟨ob, h3⟩ := hS.fph s' x q h1 h2
  exact (hS.hp q ob h3).2.2.1
 have hmem : ∀ b o u, frzM g.hp g.M G b o = some u → w.cell? ⟨b, o, none⟩ = some u := fun b o u hu => by
  unfold frzM at hu
  split at hu
  ·rename_i hb
   obtain ⟨s', x, h1, h2⟩ := hb
   obtain ⟨ob, h3⟩ := hS.fph s' x b h1 h2
   have h4 := (hS.hp b ob h3).2.1
   rw [h3] at hu
   split at hu
   ·rename_i cs _ _ e
    obtain rfl := oJ_ e
    simp only [World.cell?, h4]
    exact hu
   ·cases hu
  ·exact hS.mem b o u hu
 have harg : ∀ (v : Value) (c : C), RelC g v c → Rel (frzM g.hp g.M G) v (argB st c) := fun v c hc => by
  have pure : Rel (frzM g.hp g.M G) v (st.asV c) := (hS.asV hc).mono (frzM_mono hG)
  unfold argB
  split
  ·rename_i s' gs0
   split
   ·rename_i x hx
    refine gateA_rel fun hgs => ?_
    have h2 := (hc hgs).2
    simp only [walkV, oE_] at h2
    rw [← h2]
    exact ((hS.own s' x hx).frz fun q hq => hG q ⟨s', x, hx, hq⟩).mono (frzM_sub hG fun q hq => ⟨s', x, hx, hq⟩)
   ·exact .any _
  ·rename_i s' q0 p0 gs0
   split
   ·rename_i x hx
    refine gateA_rel fun hgs => ?_
    have h2 := (hc hgs).2
    unfold frzC
    split
    ·rename_i y hy
     obtain ⟨u, G', e1, e2, e3, _⟩ := RelT.get _ (hS.own s' x hx) hy
     rw [e1] at h2
     obtain rfl := oJ_ h2
     exact (e2.frz fun q hq => hG q ⟨s', x, hx, e3 q hq⟩).mono (frzM_sub hG fun q hq => ⟨s', x, hx, e3 q hq⟩)
    ·exact .any _
   ·exact .any _
  ·rename_i s' k0 gs0
   split
   ·rename_i x hx
    refine gateA_rel fun hgs => ?_
    unfold frzQ
    split
    ·rename_i l
     obtain ⟨_, u, b, h1, h2, h3⟩ := hc hgs
     simp only [walkV, oE_] at h1
     subst h1
     have hT := hS.own s' _ hx
     generalize hv : g.ov s' = vv at hT h2
     have hfz : ∀ q, g.fp s' q → G q := fun q hq => ⟨s', _, hx, hq⟩
     cases hT with
     | pure _ _ _ h => exact absurd h rel_obj
     | obj _ b' cs ty fz hfz2 l Fi hb hh hs h1 hr sub dis =>
      simp only [blockAt, oE_] at h2
      subst h2
      rw [h3]
      have hat : ∀ j z, l[j]? = some z → frzM g.hp g.M G b' (0 + j) = some (cs.getD j undef) := fun j z hz => by
       have hlt : j < cs.size := by rw [hs]; exact (gS_ hz).1
       unfold frzM
       rw [if_pos (hfz b' hb), hh, Nat.zero_add]
       exact cells_at hlt
      refine .ptr b' 0 (frzL l) (fun j => cs.getD j undef) (fun j z hz => ?_) (fun j z hz => ?_) (fun j z hz => ?_)
      all_goals
       rw [frzL_at] at hz
       obtain ⟨z0, hz0, rfl⟩ := oM_ hz
      ·exact hat j z0 hz0
      ·exact h1 j (gS_ hz0).1
      ·exact ((hr j z0 hz0).frz fun q hq => hG q (hfz q (sub j q hq).1)).mono (frzM_sub hG fun q hq => hfz q (sub j q hq).1)
    ·exact .any _
   ·exact .any _
  ·exact pure
 have hargs : RelL (frzM g.hp g.M G) (args.map a.eval).toList (args.toList.map fun x => argB st (st.ev x)) := by
  refine ⟨by simp, fun i x hx => ?_⟩
  rw [List.getElem?_map] at hx
  obtain ⟨q, hq, rfl⟩ := oM_ hx
  have : (args.map a.eval).toList.getD i undef = a.eval q := by
   simp only [Array.toList_map, List.getD, List.getElem?_map, hq, Option.map_some, Option.getD_some]
  rw [this]
  exact harg _ _ (hS.ev q)
 rw [callBV_def] at hy1
 cases m with
 | none =>
  simp only at hy1
  obtain ⟨y0, hy0, hy⟩ := oB_ hy1
  split at hy0
  rotate_left
  ·cases hy0
  rename_i hlim
  obtain ⟨⟨fn, hfn, hname, hbody⟩, hcall⟩ := henv.1 _ _ _ hlim hy0
  have hname : ¬ fn.name = "runtime.NumGoroutine" := by simpa using hname
  have hbody : ¬ fn.body = none := by intro h; rw [h] at hbody; simp at hbody
  have hrun : (execOp a.eval o).run P w = .ok (.enter f (args.map a.eval ++ #[])) w := by
   obtain ⟨dst, op, ty, pos, after, guard⟩ := o
   simp only at hop
   subst hop
   simp [execOp, resolve, Act.eval, Deferred.ofValue, invoke, callFunc, program, Sem.run, hfn, hname, hbody]
  unfold OpOk
  rw [hrun]
  simp only [Array.append_empty]
  refine (hcall w (frzM g.hp g.M G) (args.map a.eval) (hS.inv w hS.below) hmem hargs).mono fun e w' hp => ?_
  obtain ⟨v, M', rfl, hg, hr⟩ := hp
  refine ⟨v, rfl, _, Sim.put_ (hS.grow (M' := g.M) ⟨hg.below, fun _ _ _ h => h, fun b o u hu => hg.mem b o u (hg.mono b o u (frzM_mono hG b o u hu)), fun _ _ _ h _ => h⟩) hd ?_⟩
  exact rel_valQ hy hr
 | some e =>
  simp only at hy1
  split at hy1
  ·rename_i he
   obtain ⟨y0, hy0, hy⟩ := oB_ hy1
   split at hy0
   rotate_left
   ·cases hy0
   rename_i hlim
   obtain ⟨⟨fn, hfn, hname, hbody⟩, hcall⟩ := (henv.2.2 _ _ _ _ hlim hy0).2 rfl
   have hname : ¬ fn.name = "runtime.NumGoroutine" := by simpa using hname
   have hbody : ¬ fn.body = none := by intro h; rw [h] at hbody; simp at hbody
   have hrun : (execOp a.eval o).run P w = .ok (.enter f (args.map a.eval ++ #[])) w := by
    obtain ⟨dst, op, ty, pos, after, guard⟩ := o
    simp only at hop
    subst hop
    simp [execOp, resolve, Act.eval, Deferred.ofValue, invoke, callFunc, program, Sem.run, hfn, hname, hbody]
   unfold OpOk
   rw [hrun]
   simp only [Array.append_empty]
   have hargL : ∀ (v : Value) (c : C), RelC g v c → ∃ F, RelT g.hp g.M F v (argL st c) := fun v c hc => by
    unfold argL
    split
    ·rename_i s' gs0
     split
     ·rename_i x hx
      refine ⟨g.fp s', gateA_relT fun hgs => ?_⟩
      have h2 := (hc hgs).2
      simp only [walkV, oE_] at h2
      rw [← h2]
      exact hS.own s' x hx
     ·exact ⟨fun _ => False, .pure _ _ _ (.any _)⟩
    ·rename_i s' k0 gs0
     split
     ·rename_i x hx
      refine ⟨g.fp s', gateA_relT fun hgs => ?_⟩
      unfold objQ
      split
      ·rename_i l
       obtain ⟨_, u, b, h1, h2, h3⟩ := hc hgs
       simp only [walkV, oE_] at h1
       subst h1
       have hT := hS.own s' _ hx
       generalize hv : g.ov s' = vv at hT h2
       have hvv : vv = v := by
        rw [h3]
        cases hT with
        | pure _ _ _ h => exact absurd h rel_obj
        | obj _ b' cs ty fz hfz2 l Fi hb hh hs h1 hr sub dis =>
         simp only [blockAt, oE_] at h2
         subst h2
         rfl
       rw [← hvv]; exact hT
      ·exact .pure _ _ _ (.any _)
     ·exact ⟨fun _ => False, .pure _ _ _ (.any _)⟩
    ·exact ⟨fun _ => False, .pure _ _ _ (hS.asV hc)⟩
   have hall : ∀ i : Nat, ∃ F : Nat → Prop, ∀ x, (args.toList.map fun x => argL st (st.ev x))[i]? = some x → RelT g.hp g.M F ((args.map a.eval).getD i undef) x := fun i => by
    cases hq : args[i]? with
    | none => exact ⟨fun _ => False, fun x hx => by rw [List.getElem?_map, Array.getElem?_toList, hq] at hx; cases hx⟩
    | some q =>
     obtain ⟨F, hF⟩ := hargL _ _ (hS.ev q)
     refine ⟨F, fun x hx => ?_⟩
     rw [List.getElem?_map, Array.getElem?_toList, hq] at hx
     obtain rfl := oJ_ hx
     have e1 : (args.map a.eval).getD i undef = a.eval q := by
      obtain ⟨hl, e⟩ := Array.getElem?_eq_some_iff.1 hq
      simp [Array.getD, hl, e]
     rw [e1]; exact hF
   have hall2 := fun i => Classical.choose_spec (hall i)
   refine (hcall w g.M g.hp (fun i => Classical.choose (hall i)) (args.map a.eval) (hS.inv w hS.below) hS.mem (fun q ob hq => ⟨(hS.hp q ob hq).2.1, (hS.hp q ob hq).2.2.1⟩) (by simp) hall2).mono fun en w' hp => ?_
   obtain ⟨v, M', rfl, hg, hr⟩ := hp
   refine ⟨v, rfl, _, Sim.put_ (hS.grow (M' := g.M) ⟨hg.below, fun _ _ _ h => h, fun b o u hu => hg.mem b o u (hg.mono b o u hu), fun _ _ _ h _ => h⟩) hd ?_⟩
   exact rel_valQ hy hr
  rename_i he
  have he := of_decide_eq_false he
  obtain ⟨y0, hy0, hy⟩ := oB_ hy1
  split at hy0
  rotate_left
  ·cases hy0
  rename_i hlim
  obtain ⟨⟨fn, hfn, hname, hbody⟩, hcall⟩ := (henv.2.2 _ _ _ _ hlim hy0).1 he
  have hname : ¬ fn.name = "runtime.NumGoroutine" := by simpa using hname
  have hbody : ¬ fn.body = none := by intro h; rw [h] at hbody; simp at hbody
  have hrun : (execOp a.eval o).run P w = .ok (.enter f (args.map a.eval ++ #[])) w := by
   obtain ⟨dst, op, ty, pos, after, guard⟩ := o
   simp only at hop
   subst hop
   simp [execOp, resolve, Act.eval, Deferred.ofValue, invoke, callFunc, program, Sem.run, hfn, hname, hbody]
  unfold OpOk
  rw [hrun]
  simp only [Array.append_empty]
  refine (hcall w (frzM g.hp g.M G) (args.map a.eval) (hS.inv w hS.below) hmem hargs).mono fun en w' hp => ?_
  obtain ⟨v, M', rfl, hg, hr⟩ := hp
  unfold flatQ at hy
  split at hy
  rotate_left
  ·cases hy
  rename_i rows
  split at hy
  rotate_left
  ·cases hy
  rename_i hflat
  obtain rfl := oJ_ hy
  simp only [slL3] at hr
  obtain ⟨hrel, _, _, _, _, _, _, hblk⟩ := hr
  let M2 : Mem := fun b o => if v.ownBlock = some b then M' b o else g.M b o
  have hlt : ∀ b o u, g.M b o = some u → ¬ v.ownBlock = some b := fun b o u hu hb => by
   have h1 := (hblk b hb).1
   have h2 := mem_lt hS.mem hu
   omega
  have hG2 : Grow g.M w M2 w' := by
   refine ⟨hg.below, fun b o u hu => ?_, fun b o u hu => ?_, fun b o u hu hb => ?_⟩
   ·show (if v.ownBlock = some b then M' b o else g.M b o) = some u
    rw [if_neg (hlt b o u hu)]; exact hu
   ·change (if v.ownBlock = some b then M' b o else g.M b o) = some u at hu
    split at hu
    ·exact hg.mem b o u hu
    ·exact hg.mem b o u (hg.mono b o u (frzM_mono hG b o u hu))
   ·change (if v.ownBlock = some b then M' b o else g.M b o) = some u at hu
    split at hu
    ·rename_i hq
     have := (hblk b hq).1
     omega
    ·exact hu
  refine ⟨v, rfl, _, Sim.put_ (hS.grow (M' := M2) hG2) hd ?_⟩
  show Rel M2 v (.sl rows)
  have hlit : ∀ (i : Nat) (r : List V), rows[i]? = some r → ∀ (j : Nat) (x : V), r[j]? = some x → ∃ u, x.val? = some u := fun i r hi j x hx => by
   have h1 := List.all_eq_true.1 hflat r (List.mem_of_getElem? hi)
   have h2 := List.all_eq_true.1 h1 x (List.mem_of_getElem? hx)
   exact Option.isSome_iff_exists.1 h2
  cases hrel with
  | sl A n c k b o _ u hn hc hk hA hm h1 hr =>
   refine .sl A n c k b o rows u hn hc hk hA (fun i r hi j x hx => ?_) h1 fun i r hi j x hx => ?_
   ·have hpos : 0 < n := by rw [← hn]; exact Nat.lt_of_le_of_lt (Nat.zero_le _) (gS_ hi).1
    obtain rfl := hA hpos
    show (if (Value.slice (some ⟨b, o, none⟩) n c).ownBlock = some b then M' b _ else g.M b _) = _
    rw [if_pos (show (Value.slice (some ⟨b, o, none⟩) n c).ownBlock = some b from rfl)]
    exact hm i r hi j x hx
   ·obtain ⟨z, hz⟩ := hlit i r hi j x hx
    exact rel_valQ (y := x) (z := x) (by unfold litQ; rw [hz]) (hr i r hi j x hx)
theorem flatten_drop {k : Nat} : ∀ {xs : List (List Value)} (l : Nat), (∀ cs ∈ xs, cs.length = k) → (xs.drop l).flatten = xs.flatten.drop (l * k)
 | xs, 0, _ => by simp
 | [], l + 1, _ => by simp
 | x :: xs, l + 1, h => by
  have hx := h x (by simp)
  rw [List.drop_succ_cons, flatten_drop l (fun cs hcs => h cs (by simp [hcs])), List.flatten_cons, List.drop_append, Nat.add_mul, Nat.one_mul, hx, List.drop_eq_nil_of_le (as := x) (i := l * k + k) (by rw [hx]; exact Nat.le_add_left _ _), List.nil_append, Nat.add_sub_cancel]
theorem tailO_ok (hS : Sim P Dw F0 base M0 w0 N g st a w) (hf : Fresh st s) {dst : Option Nat} (hd : ∀ d, dst = some d → d < N) {t : TypeId} {x lo : Operand} {st' : St} (h : tailO P s st dst t (st.ev x) (fun rows => tailV rows (st.rd lo)) = some st') :
  ∃ v g', (Instr.sliceAt t (a.eval x) (some (a.eval lo)) none none).run P w = .ok v w ∧ Sim P Dw F0 base M0 w0 N g' st' (a.put dst v) w := by
 have hx := hS.ev x
 unfold tailO at h
 split at h
 ·rename_i r hev
  obtain ⟨⟨e, k⟩, hel, h⟩ := oB_ h
  obtain ⟨rows, hrows, h⟩ := oB_ h
  obtain ⟨y, hy, rfl⟩ := oM_ h
  simp only at hrows
  obtain ⟨bytes, el, hby, hsz⟩ := elemP_some hel
  simp only at el hsz
  rw [hev] at hx
  simp only [RelC] at hx
  simp only [rowsAt, Option.bind_eq_some_iff] at hrows
  obtain ⟨p, hp, hrows⟩ := hrows
  split at hrows
  rotate_left
  ·cases hrows
  rename_i hpe
  simp only [oE_] at hrows
  obtain ⟨e', rows'⟩ := p
  simp only at hpe hrows
  subst hpe hrows
  obtain ⟨hrel, k2, xs, h2, hown, hxl, hrk, hvb⟩ := hS.row r _ _ hp
  have : k2 = k := by rw [hsz] at h2; simpa using h2.symm
  subst this
  have hy : tailV rows' (st.rd lo) = some y := hy
  unfold tailV at hy
  split at hy
  rotate_left
  ·cases hy
  rename_i l hl
  split at hy
  rotate_left
  ·cases hy
  rename_i hle
  obtain rfl := oJ_ hy
  have hu : P.underlying t = some (.slice e') := el.ht
  have hsv : sliceV P t (.sl rows') (some (st.rd lo)) none = some (.sl (rows'.drop l)) := by
   unfold sliceV kindS
   rw [hu]
   simp only [hsz, Option.map_some, oS_, slc, hl]
   have : boundL (none : Option V) rows'.length = some rows'.length := rfl
   rw [this]
   simp only
   rw [if_pos ⟨hle, Nat.le_refl _, by simpa using hrk⟩, List.take_length]
  have hloR : ∀ v, some (a.eval lo) = some v → ∃ x, some (st.rd lo) = some x ∧ Rel g.M v x := fun v hv => by
   obtain rfl := oJ_ hv
   exact ⟨_, rfl, hS.rd lo⟩
  obtain ⟨u, hrun, hurel⟩ := sliceV_ok (P := P) (w := w) (t := t) (lo := some (a.eval lo)) (hi := none) hrel hloR (by simp) (by simp) (by simp) hsv
  have hrun2 : ∀ A c, a.eval x = .slice A rows'.length c → rows'.length ≤ c → (Instr.sliceAt t (a.eval x) (some (a.eval lo)) none none).run P w = .ok (.slice (if c = l then A else A.map (·.add (l * k2))) (rows'.length - l) (c - l)) w := fun A c hA hc => by
   have hb := run_bounds (P := P) (w := w) (b := true) (cap := c) (lo := some (a.eval lo)) (hi := none) (xl := some (st.rd lo)) (xh := none) hloR (by simp) (by simp) (by simp) hl rfl hle (Nat.le_refl _) hc
   rw [hA]
   simp [Instr.sliceAt, Instr.slice, run_underlying hu, hb, run_sizeP hsz]
  -- the state without the old row
  have hS1 : Sim P Dw F0 base M0 w0 N g { st with rw := upd st.rw r none } a w := by
   have hr : ∀ s2 r2, (upd st.rw r none) s2 = some r2 → st.rw s2 = some r2 ∧ s2 ≠ r := fun s2 r2 h => by
    by_cases e : s2 = r
    ·subst e; rw [upd_same] at h; cases h
    ·rw [upd_ne _ _ e] at h; exact ⟨h, e⟩
   refine { hS with slot := fun t' => ?_, row := fun s2 e2 rows2 h2 => hS.row s2 e2 rows2 (hr _ _ h2).1, rows := fun s1 s2 r1 r2 h1 h2 hne q' hq' => hS.rows s1 s2 r1 r2 (hr _ _ h1).1 (hr _ _ h2).1 hne q' hq', boxrow := fun s1 s2 l r h1 h2 => hS.boxrow s1 s2 l r h1 (hr _ _ h2).1, hp := fun q' ob hq' => ?_ }
   ·exact hS.slot t'
   ·obtain ⟨p1, p2, p3, p4, p5⟩ := hS.hp q' ob hq'
    exact ⟨p1, p2, p3, p4, fun s2 r2 h2 => p5 s2 r2 (hr _ _ h2).1⟩
  have hf1 : Fresh { st with rw := upd st.rw r none } s := ⟨hf.1, hf.2.1, by
   show upd st.rw r none s = none
   by_cases e : s = r
   ·subst e; rw [upd_same]
   ·rw [upd_ne _ _ e]; exact hf.2.2.1, hf.2.2.2⟩
  have fin : ∀ v2, (Instr.sliceAt t (a.eval x) (some (a.eval lo)) none none).run P w = .ok v2 w → OwnsO w base e' k2 v2 (xs.drop l) → (∀ q, v2.ownBlock = some q → (g.val r).ownBlock = some q) →
    (∀ q, v2.ownBlock = some q → base ≤ q ∧ q < w.heap.size ∧ ((rows'.drop l).length < capOf v2 → ∀ o u, g.M q o = some u → o < offOf v2 + (rows'.drop l).length * k2)) →
    ∃ v g', (Instr.sliceAt t (a.eval x) (some (a.eval lo)) none none).run P w = .ok v w ∧ Sim P Dw F0 base M0 w0 N g' (({ st with rw := upd (dropRow st (.row r)) s (some (e', slL (.sl (rows'.drop l)))) } : St).put dst (.row s)) (a.put dst v) w := by
   intro v2 h1 h2 h3 h4
   have hrel2 : Rel g.M v2 (.sl (rows'.drop l)) := by
    rw [hx, hrun] at h1
    simp only [Result.ok.injEq] at h1
    rw [← h1.1]; exact hurel
   have := hS1.newRow (s := s) (e := e') (rows := rows'.drop l) (v := v2) hf1 ⟨hrel2, k2, xs.drop l, hsz, h2, by simp [hxl], fun r hr => hrk r (List.mem_of_mem_drop hr), h4⟩
    (fun s' l' hs' e => hS.boxrow s' r l' _ hs' hp (h3 _ e))
    (fun s' r' hs' q hq e => by
     have hs' : upd st.rw r none s' = some r' := hs'
     by_cases e2 : s' = r
     ·subst e2; rw [upd_same] at hs'; cases hs'
     ·rw [upd_ne _ _ e2] at hs'
      exact hS.rows r s' _ _ hp hs' (Ne.symm e2) q (h3 q hq) e)
    (fun q ob hq e => (hS.hp q ob hq).2.2.2.2 r _ hp (h3 q e))
   exact ⟨v2, _, h1, Sim.put_ this hd (by show v2 = upd g.val s v2 s; rw [upd_same])⟩
  rcases hown.2 with ⟨hv, hx0⟩ | ⟨q, off, cap, cur, hv, hbq, hq, hnc, hcm, hcs, hcur⟩
  ·have hr0 : rows' = [] := List.eq_nil_of_length_eq_zero (by rw [← hxl, hx0]; rfl)
   subst hr0 hx0
   have hl0 : l = 0 := by simpa using hle
   subst hl0
   refine fin (.slice none 0 0) ?_ (by simpa using OwnsO.nil_ w base e' k2) (by simp [Value.ownBlock]) (by simp [Value.ownBlock])
   have := hrun2 none 0 (by rw [hx, hv]; rfl) (by simp)
   simpa using this
  ·have hev2 : a.eval x = .slice (some ⟨q, off, none⟩) rows'.length cap := by rw [hx, hv, hxl]
   have h1 := hrun2 _ cap hev2 (by omega)
   by_cases hc : cap = l
   ·rw [if_pos hc] at h1
    have e0 : rows'.length - l = 0 := by omega
    have e1 : cap - l = 0 := by omega
    have ex : xs.drop l = [] := List.drop_eq_nil_of_le (by omega)
    rw [e0, e1] at h1
    refine fin _ h1 (by rw [ex]; exact ⟨by simp, .inr ⟨q, off, 0, cur, rfl, hbq, hq, Nat.le_refl _, Nat.zero_le _, by omega, fun o ho => by simp at ho⟩⟩) (fun q' hq' => ?_) (fun q' hq' => ?_)
    ·rw [hv]; exact hq'
    ·have : q' = q := by simpa [Value.ownBlock] using hq'.symm
     subst this
     exact ⟨hbq, (Array.getElem?_eq_some_iff.1 hq).1, fun hlt => by simp [capOf] at hlt⟩
   ·rw [if_neg hc, Option.map_some, addr_add] at h1
    have hmulc : l * k2 + (cap - l) * k2 = cap * k2 := by rw [← Nat.add_mul]; congr 1; omega
    have hmulr : l * k2 + (rows'.length - l) * k2 = rows'.length * k2 := by rw [← Nat.add_mul]; congr 1; omega
    refine fin _ h1 ⟨fun cs hcs => hown.1 cs (List.mem_of_mem_drop hcs), .inr ⟨q, off + l * k2, cap - l, cur, by rw [List.length_drop, hxl], hbq, hq, by rw [List.length_drop]; omega, by omega, by omega, fun o ho => ?_⟩⟩ (fun q' hq' => ?_) (fun q' hq' => ?_)
    ·rw [flatten_drop l hown.1, List.getElem?_drop, Nat.add_assoc]
     rw [List.length_drop, hxl] at ho
     exact hcur _ (by rw [hxl]; omega)
    ·rw [hv]; exact hq'
    ·have : q' = q := by simpa [Value.ownBlock] using hq'.symm
     subst this
     refine ⟨hbq, (Array.getElem?_eq_some_iff.1 hq).1, fun hlt o u hu => ?_⟩
     have hlt : (rows'.drop l).length < cap - l := hlt
     rw [List.length_drop] at hlt ⊢
     have := (hvb q' (by rw [hv]; rfl)).2.2 (by rw [hv]; show rows'.length < cap; omega) o u hu
     rw [hv] at this
     have this : o < off + rows'.length * k2 := this
     show o < off + l * k2 + _
     omega
 ·cases h
theorem take_get {α : Type} {l : List α} {n i : Nat} {r : α} (h : (l.take n)[i]? = some r) : l[i]? = some r := by
 rw [List.getElem?_take] at h
 split at h
 ·exact h
 ·cases h
theorem flatten_len {α : Type} {k : Nat} : ∀ {xs : List (List α)}, (∀ cs ∈ xs, cs.length = k) → xs.flatten.length = xs.length * k
 | [], _ => by simp
 | x :: xs, h => by
  rw [List.flatten_cons, List.length_append, h x (by simp), flatten_len fun cs hcs => h cs (by simp [hcs]), List.length_cons, Nat.succ_mul, Nat.add_comm]
theorem headO_ok (hS : Sim P Dw F0 base M0 w0 N g st a w) (hf : Fresh st s) {dst : Option Nat} (hd : ∀ d, dst = some d → d < N) {t : TypeId} {x hi mx : Operand} {st' : St} (h : tailO P s st dst t (st.ev x) (fun rows => headV rows (st.rd hi) (st.rd mx)) = some st') :
  ∃ v g', (Instr.sliceAt t (a.eval x) none (some (a.eval hi)) (some (a.eval mx))).run P w = .ok v w ∧ Sim P Dw F0 base M0 w0 N g' st' (a.put dst v) w := by
 have hx := hS.ev x
 unfold tailO at h
 split at h
 ·rename_i r hev
  obtain ⟨⟨e, k⟩, hel, h⟩ := oB_ h
  obtain ⟨rows, hrows, h⟩ := oB_ h
  obtain ⟨y, hy, rfl⟩ := oM_ h
  simp only at hrows
  obtain ⟨bytes, el, hby, hsz⟩ := elemP_some hel
  simp only at el hsz
  rw [hev] at hx
  simp only [RelC] at hx
  simp only [rowsAt, Option.bind_eq_some_iff] at hrows
  obtain ⟨p, hp, hrows⟩ := hrows
  split at hrows
  rotate_left
  ·cases hrows
  rename_i hpe
  simp only [oE_] at hrows
  obtain ⟨e', rows'⟩ := p
  simp only at hpe hrows
  subst hpe hrows
  obtain ⟨hrel, k2, xs, h2, hown, hxl, hrk, hvb⟩ := hS.row r _ _ hp
  have : k2 = k := by rw [hsz] at h2; simpa using h2.symm
  subst this
  have hy : headV rows' (st.rd hi) (st.rd mx) = some y := hy
  unfold headV at hy
  split at hy
  rotate_left
  ·cases hy
  rename_i l hl
  split at hy
  rotate_left
  ·cases hy
  rename_i m hm
  split at hy
  rotate_left
  ·cases hy
  rename_i hle
  obtain ⟨rfl, hle⟩ := hle
  obtain rfl := oJ_ hy
  have hu : P.underlying t = some (.slice e') := el.ht
  obtain ⟨kh, hh⟩ := boundL_some (hS.rd hi) hl
  obtain ⟨km, hmm⟩ := boundL_some (hS.rd mx) hm
  have hrun2 : ∀ A c, a.eval x = .slice A rows'.length c → rows'.length ≤ c → (Instr.sliceAt t (a.eval x) none (some (a.eval hi)) (some (a.eval mx))).run P w = .ok (.slice (if l = 0 then A else A.map (·.add (0 * k2))) l l) w := fun A c hA hc => by
   have c1 : (l : Int) ≤ (c : Int) := by omega
   have c2 : (0 : Int) ≤ (l : Int) := by omega
   have c3 : l ≤ c := by omega
   have hb : (Instr.sliceBounds true rows'.length c none (some (.int kh (l : Int))) (some (.int km (l : Int)))).run P w = .ok (0, l, l) w := by
    simp [Instr.sliceBounds, Instr.sliceBound, asIntOf, c1, c2, c3]
   rw [hA, hh, hmm]
   simp [Instr.sliceAt, Instr.slice, run_underlying hu, hb, run_sizeP hsz]
  have hS1 : Sim P Dw F0 base M0 w0 N g { st with rw := upd st.rw r none } a w := by
   have hr : ∀ s2 r2, (upd st.rw r none) s2 = some r2 → st.rw s2 = some r2 ∧ s2 ≠ r := fun s2 r2 h => by
    by_cases e : s2 = r
    ·subst e; rw [upd_same] at h; cases h
    ·rw [upd_ne _ _ e] at h; exact ⟨h, e⟩
   refine { hS with slot := fun t' => ?_, row := fun s2 e2 rows2 h2 => hS.row s2 e2 rows2 (hr _ _ h2).1, rows := fun s1 s2 r1 r2 h1 h2 hne q' hq' => hS.rows s1 s2 r1 r2 (hr _ _ h1).1 (hr _ _ h2).1 hne q' hq', boxrow := fun s1 s2 l r h1 h2 => hS.boxrow s1 s2 l r h1 (hr _ _ h2).1, hp := fun q' ob hq' => ?_ }
   ·exact hS.slot t'
   ·obtain ⟨p1, p2, p3, p4, p5⟩ := hS.hp q' ob hq'
    exact ⟨p1, p2, p3, p4, fun s2 r2 h2 => p5 s2 r2 (hr _ _ h2).1⟩
  have hf1 : Fresh { st with rw := upd st.rw r none } s := ⟨hf.1, hf.2.1, by
   show upd st.rw r none s = none
   by_cases e : s = r
   ·subst e; rw [upd_same]
   ·rw [upd_ne _ _ e]; exact hf.2.2.1, hf.2.2.2⟩
  have fin : ∀ v2, (Instr.sliceAt t (a.eval x) none (some (a.eval hi)) (some (a.eval mx))).run P w = .ok v2 w → Rel g.M v2 (.sl (rows'.take l)) → OwnsO w base e' k2 v2 (xs.take l) → (∀ q, v2.ownBlock = some q → (g.val r).ownBlock = some q) →
    (∀ q, v2.ownBlock = some q → base ≤ q ∧ q < w.heap.size ∧ ((rows'.take l).length < capOf v2 → ∀ o u, g.M q o = some u → o < offOf v2 + (rows'.take l).length * k2)) →
    ∃ v g', (Instr.sliceAt t (a.eval x) none (some (a.eval hi)) (some (a.eval mx))).run P w = .ok v w ∧ Sim P Dw F0 base M0 w0 N g' (({ st with rw := upd (dropRow st (.row r)) s (some (e', slL (.sl (rows'.take l)))) } : St).put dst (.row s)) (a.put dst v) w := by
   intro v2 h1 hrel2 h2 h3 h4
   have := hS1.newRow (s := s) (e := e') (rows := rows'.take l) (v := v2) hf1 ⟨hrel2, k2, xs.take l, hsz, h2, by simp [hxl], fun r hr => hrk r (List.mem_of_mem_take hr), h4⟩
    (fun s' l' hs' e => hS.boxrow s' r l' _ hs' hp (h3 _ e))
    (fun s' r' hs' q hq e => by
     have hs' : upd st.rw r none s' = some r' := hs'
     by_cases e2 : s' = r
     ·subst e2; rw [upd_same] at hs'; cases hs'
     ·rw [upd_ne _ _ e2] at hs'
      exact hS.rows r s' _ _ hp hs' (Ne.symm e2) q (h3 q hq) e)
    (fun q ob hq e => (hS.hp q ob hq).2.2.2.2 r _ hp (h3 q e))
   exact ⟨v2, _, h1, Sim.put_ this hd (by show v2 = upd g.val s v2 s; rw [upd_same])⟩
  rcases hown.2 with ⟨hv, hx0⟩ | ⟨q, off, cap, cur, hv, hbq, hq, hnc, hcm, hcs, hcur⟩
  ·have hr0 : rows' = [] := List.eq_nil_of_length_eq_zero (by rw [← hxl, hx0]; rfl)
   subst hr0 hx0
   have hl0 : l = 0 := by simpa using hle
   subst hl0
   refine fin (.slice none 0 0) ?_ ?_ (by simpa using OwnsO.nil_ w base e' k2) (by simp [Value.ownBlock]) (by simp [Value.ownBlock])
   ·have := hrun2 none 0 (by rw [hx, hv]; rfl) (by simp)
    simpa using this
   ·rw [hv] at hrel
    simpa using hrel
  ·have hev2 : a.eval x = .slice (some ⟨q, off, none⟩) rows'.length cap := by rw [hx, hv, hxl]
   have h1 := hrun2 _ cap hev2 (by omega)
   have hA : (if l = 0 then (some ⟨q, off, none⟩ : Option Addr) else (some ⟨q, off, none⟩ : Option Addr).map (·.add (0 * k2))) = some ⟨q, off, none⟩ := by
    split
    ·rfl
    ·rw [Option.map_some, addr_add, Nat.zero_mul, Nat.add_zero]
   rw [hA] at h1
   refine fin _ h1 ?_ ⟨fun cs hcs => hown.1 cs (List.mem_of_mem_take hcs), .inr ⟨q, off, l, cur, ?_, hbq, hq, ?_, ?_, ?_, fun o ho => ?_⟩⟩ (fun q' hq' => ?_) (fun q' hq' => ?_)
   ·rw [hv, hxl] at hrel
    cases hrel with
    | sl A n c k b o rows u hn hc hk hA hm2 h1 hr => exact .sl _ _ _ k b o _ u (by rw [List.length_take]; omega) (Nat.le_refl _) (fun r hr => hk r (List.mem_of_mem_take hr)) (fun h0 => hA (by omega)) (fun i r hr => hm2 i r (take_get hr)) (fun i r hr => h1 i r (take_get hr)) (fun i r hr2 => hr i r (take_get hr2))
   ·rw [List.length_take, hxl, Nat.min_eq_left hle]
   ·rw [List.length_take, hxl]; omega
   ·omega
   ·have : l * k2 ≤ cap * k2 := Nat.mul_le_mul_right _ (by omega)
    omega
   ·rw [List.length_take, hxl, Nat.min_eq_left hle] at ho
    have h3 : l * k2 ≤ xs.length * k2 := Nat.mul_le_mul_right _ (by omega)
    rw [hcur o (by omega), ← List.take_append_drop l xs, List.flatten_append, List.getElem?_append_left (by rw [flatten_len (fun cs hcs => hown.1 cs (List.mem_of_mem_take hcs)), List.length_take, hxl, Nat.min_eq_left hle]; exact ho)]
    simp
   ·rw [hv]; exact hq'
   ·have : q' = q := by simpa [Value.ownBlock] using hq'.symm
    subst this
    refine ⟨hbq, (Array.getElem?_eq_some_iff.1 hq).1, fun hlt o u hu => ?_⟩
    have hlt : (rows'.take l).length < l := hlt
    rw [List.length_take] at hlt
    omega
 ·cases h
theorem mOp_ok (henv : EnvOk P Dw env) (hS : Sim P Dw F0 base M0 w0 N g st a w) (hf : Fresh st s) (hd : ∀ d, o.dst = some d → d < N) {st' : St} (h : mOp P env s st o = some (some st')) :
  OpOk P o a w fun v w' => ∃ g', Sim P Dw F0 base M0 w0 N g' st' (a.put o.dst v) w' := by
 have app : ∀ args tys x y t, o.op = .call ⟨.builtin .append, args, tys⟩ → args.toList = [x, y] → tys.toList = [t, t] → ∀ cx, RelC g (a.eval x) cx → appO P s st o.dst t cx y = some st' → OpOk P o a w fun v w' => ∃ g', Sim P Dw F0 base M0 w0 N g' st' (a.put o.dst v) w' := by
  intro args tys x y t hop hx ht cx hcx h
  obtain ⟨v, w', g', h1, h2⟩ := appO_ok (ty := o.type) hS hf hd hcx h
  have ea : args = #[x, y] := by apply Array.toList_inj.1; exact hx
  have et : tys = #[t, t] := by apply Array.toList_inj.1; exact ht
  subst ea et
  have e3 : Array.map a.eval #[x, y] = #[a.eval x, a.eval y] := by simp
  have : (execOp a.eval o).run P w = .ok (.value v) w' := by
   simp only [execOp, hop, resolve, pure_bind, invoke, builtin, e3]
   simp [h1]
  unfold OpOk
  rw [this]
  exact ⟨g', h2⟩
 unfold mOp at h
 split at h
 ·rename_i args tys hop
  split at h
  ·rename_i x y t t' hx ht
   split at h
   ·rename_i hev
    have h := oJ_ h
    split at h
    ·rename_i e
     obtain rfl : t' = t := e
     exact app args tys x y t' hop hx ht _ (by rw [← hev]; exact hS.ev x) h
    ·cases h
   ·rename_i hev
    split at h
    ·have h := oJ_ h
     split at h
     ·rename_i e
      obtain rfl : t' = t := e
      exact app args tys x y t' hop hx ht _ (by rw [← hev]; exact hS.ev x) h
     ·cases h
    ·cases h
   ·cases h
  ·cases h
 ·rename_i f args tys hop
  split at h
  ·cases h
  ·split at h
   ·exact callB_ok henv hS hd hop (oJ_ h)
   ·split at h
    ·exact callO_ok henv hS hf hd hop (oJ_ h)
    ·cases h
 ·rename_i t n parts hop
  split at h
  ·obtain ⟨v, w', g', h1, h2⟩ := litO_ok hS hf hd (oJ_ h)
   have : (execOp a.eval o).run P w = .ok (.value v) w' := by
    simp only [execOp, hop]
    rw [Sem.run_bind, h1]; rfl
   unfold OpOk
   rw [this]
   exact ⟨g', h2⟩
  ·cases h
 ·rename_i t parts hop
  split at h
  ·obtain ⟨y, hy, rfl⟩ := oM_ (oJ_ h)
   obtain ⟨u, h1, h2⟩ := buildN_ok (M := g.M) (w := w) (vparts := parts.map fun p => (p.1, a.eval p.2)) (by simp) (fun i p hp => by
    rw [List.getElem?_map] at hp
    obtain ⟨q, hq, rfl⟩ := oM_ hp
    exact ⟨a.eval q.2, by simp [hq], hS.rd q.2⟩) hy
   have : (execOp a.eval o).run P w = .ok (.value u) w := by
    simp only [execOp, hop]
    rw [Sem.run_bind, h1]; rfl
   unfold OpOk
   rw [this]
   exact ⟨g, hS.put_ hd h2⟩
  ·split at h
   ·obtain ⟨v, g', h1, h2⟩ := buildR_ok hS hf hd (oJ_ h)
    have : (execOp a.eval o).run P w = .ok (.value v) w := by
     simp only [execOp, hop]
     rw [Sem.run_bind, h1]; rfl
    unfold OpOk
    rw [this]
    exact ⟨g', h2⟩
   ·cases h
 ·rename_i t hop
  split at h
  ·obtain ⟨v, w', g', h1, h2⟩ := allocN_ok hS hf hd (oJ_ h)
   have : (execOp a.eval o).run P w = .ok (.value v) w' := by
    simp only [execOp, hop]
    rw [Sem.run_bind, h1]; rfl
   unfold OpOk
   rw [this]
   exact ⟨g', h2⟩
  ·cases h
 ·rename_i t x hop
  split at h
  ·obtain ⟨v, g', h1, h2⟩ := takeL_ok hS hf hd (oJ_ h)
   have : (execOp a.eval o).run P w = .ok (.value v) w := by
    simp only [execOp, hop]
    rw [Sem.run_bind, h1]; rfl
   unfold OpOk
   rw [this]
   exact ⟨g', h2⟩
  ·split at h
   ·obtain ⟨v, g', h1, h2⟩ := takeC_ok hS hf hd (oJ_ h)
    have : (execOp a.eval o).run P w = .ok (.value v) w := by
     simp only [execOp, hop]
     rw [Sem.run_bind, h1]; rfl
    unfold OpOk
    rw [this]
    exact ⟨g', h2⟩
   ·cases h
 ·rename_i x hop
  split at h
  ·obtain ⟨g', h2⟩ := nilO_ok hS hf hd (oJ_ h)
   have : (execOp a.eval o).run P w = .ok (.value (a.eval x)) w := by
    simp only [execOp, hop]
    rfl
   unfold OpOk
   rw [this]
   exact ⟨g', h2⟩
  ·cases h
 ·rename_i t x lo hop
  split at h
  ·obtain ⟨v, g', h1, h2⟩ := tailO_ok hS hf hd (oJ_ h)
   have : (execOp a.eval o).run P w = .ok (.value v) w := by
    simp only [execOp, hop, Option.map_some, Option.map_none]
    rw [Sem.run_bind, h1]; rfl
   unfold OpOk
   rw [this]
   exact ⟨g', h2⟩
  ·cases h
 ·rename_i t x hi mx hop
  split at h
  ·obtain ⟨v, g', h1, h2⟩ := headO_ok hS hf hd (oJ_ h)
   have : (execOp a.eval o).run P w = .ok (.value v) w := by
    simp only [execOp, hop, Option.map_some, Option.map_none]
    rw [Sem.run_bind, h1]; rfl
   unfold OpOk
   rw [this]
   exact ⟨g', h2⟩
  ·cases h
 ·rename_i x i hop
  split at h
  ·rename_i s2 hev
   obtain ⟨v, g', h1, h2⟩ := partO_ok hS hf hd hev (oJ_ h)
   have : (execOp a.eval o).run P w = .ok (.value v) w := by
    simp only [execOp, hop]
    rw [Sem.run_bind, h1]; rfl
   unfold OpOk
   rw [this]
   exact ⟨g', h2⟩
  ·cases h
 ·cases h
theorem takeO_fresh {s2 s3 : Nat} {pa : List Stp} {r : V × St} (h : takeO st s2 pa = some r) (hf : Fresh st s3) : Fresh r.2 s3 := by
 cases pa with
 | nil =>
  simp only [takeO] at h
  obtain ⟨x0, hx0, rfl⟩ := oM_ h
  exact hf.dropO (some s2)
 | cons p ps =>
  simp only [takeO] at h
  obtain ⟨x0, hx0, h⟩ := oB_ h
  obtain ⟨y, hy, h⟩ := oB_ h
  obtain ⟨q, hq, h⟩ := oB_ h
  obtain ⟨x', hx', rfl⟩ := oM_ h
  refine ⟨fun t => killC_site (hf.1 t), hf.2.1, hf.2.2.1, ?_, hf.2.2.2.2⟩
  show upd st.ow s2 (some x') s3 = none
  rw [upd_ne _ _ (fun e => by rw [e] at hf; rw [hf.2.2.2.1] at hx0; cases hx0)]
  exact hf.2.2.2.1
theorem takeO_keep {s2 : Nat} {pa : List Stp} {r : V × St} (h : takeO st s2 pa = some r) (t : Nat) : KeepC (st.φ t) (r.2.φ t) := by
 cases pa with
 | nil =>
  simp only [takeO] at h
  obtain ⟨x0, hx0, rfl⟩ := oM_ h
  exact dropO_keep st (some s2) t
 | cons p ps =>
  simp only [takeO] at h
  obtain ⟨x0, hx0, h⟩ := oB_ h
  obtain ⟨y, hy, h⟩ := oB_ h
  obtain ⟨q, hq, h⟩ := oB_ h
  obtain ⟨x', hx', rfl⟩ := oM_ h
  exact killC_keep _ _ _
theorem newO_fresh {s2 : Nat} {z : V} {dst : Option Nat} {st1 : St} (hf : Fresh st1 s2) (hne : s2 ≠ s) : Fresh (({ st1 with ow := upd st1.ow s (some z) } : St).put dst (.ref s [] [])) s2 :=
 put_fresh ⟨hf.1, hf.2.1, hf.2.2.1, by simp only [upd_ne _ _ hne]; exact hf.2.2.2.1, hf.2.2.2.2⟩ (by simp only [C.site, ne_eq, oE_]; exact fun e => hne e.symm)
theorem put_keep {dst : Option Nat} {c : C} {t : Nat} {st1 : St} (h : dst ≠ some t) : (st1.put dst c).φ t = st1.φ t := by
 cases dst with
 | none => rfl
 | some d => exact upd_ne _ _ fun e => h (by rw [e])
theorem appO_some {dst : Option Nat} {t : TypeId} {cx : C} {y : Operand} {st' : St} (h : appO P s st dst t cx y = some st') :
  ∃ r z q, (r.2 = st ∨ ∃ s2 pa, takeO st s2 pa = some r) ∧ st' = (({ dropO r.2 q with ow := upd (dropO r.2 q).ow s (some z) } : St).put dst (.ref s [] [])) := by
 unfold appO at h
 obtain ⟨p, hel, h⟩ := oB_ h
 obtain ⟨r, hr, h⟩ := oB_ h
 obtain ⟨q, hq, h⟩ := oB_ h
 obtain ⟨z, hz, rfl⟩ := oM_ h
 refine ⟨r, z, q.2, ?_, rfl⟩
 split at hr
 ·exact .inl (by obtain rfl := oJ_ hr; rfl)
 ·exact .inr ⟨_, _, hr⟩
 ·cases hr
theorem partO_some {dst : Option Nat} {c : C} {i : Nat} {st' : St} {b sl : Bool} (h : partO b sl s st dst c i = some st') : ∃ s3 l x, c = .ref s3 [] [] ∧ st.ow s3 = some (.tup l) ∧ ((∃ o2 c2, x = o2 ∧ c2.site = some s ∧ st' = ({ st with ow := upd (upd st.ow s3 (some (.tup (l.set i .any)))) s (some o2) } : St).put dst c2) ∨ ∃ y, st' = st.put dst (.v y)) := by
 unfold partO at h
 split at h
 ·rename_i s3
  split at h
  ·rename_i l hl
   split at h
   ·split at h
    ·exact ⟨s3, l, _, rfl, hl, .inl ⟨_, _, rfl, rfl, (oJ_ h).symm⟩⟩
    ·cases h
   split at h
   ·split at h
    ·rename_i o2 hi
     exact ⟨s3, l, _, rfl, hl, .inl ⟨_, _, rfl, rfl, (oJ_ h).symm⟩⟩
    ·rename_i x hx hi
     obtain ⟨y, hy, rfl⟩ := oM_ h
     exact ⟨s3, l, x, rfl, hl, .inr ⟨y, rfl⟩⟩
    ·cases h
   ·obtain ⟨x, hx, h⟩ := oB_ h
    obtain ⟨y, hy, rfl⟩ := oM_ h
    exact ⟨s3, l, x, rfl, hl, .inr ⟨y, rfl⟩⟩
  ·cases h
 ·cases h
theorem takeC_some {dst : Option Nat} {t : TypeId} {x : Operand} {st' : St} (h : takeC P s st dst t x = some st') : ∃ r s3 pa, takeO st s3 pa = some r ∧ st' = ({ r.2 with ow := upd r.2.ow s (some r.1) } : St).put dst (.ref s [] []) := by
 unfold takeC at h
 split at h
 ·obtain ⟨z, hz, h⟩ := oB_ h
  obtain ⟨r, hr, rfl⟩ := oM_ h
  exact ⟨r, _, _, hr, rfl⟩
 ·cases h
theorem mOp_some {st' : St} (h : mOp P env s st o = some (some st')) : (∃ t cx y, appO P s st o.dst t cx y = some st') ∨ (∃ f args, callO env s st o.dst f args = some st') ∨ (∃ t n parts, litO P s st o.dst t n parts = some st') ∨ (∃ v, st' = st.put o.dst (.v v)) ∨ (∃ t, allocN P s st o.dst t = some st') ∨ (∃ t c, takeL P s st o.dst t c = some st') ∨ (∃ t c, nilO P s st o.dst t c = some st') ∨ (∃ t c f, tailO P s st o.dst t c f = some st') ∨ (∃ b sl c i, partO b sl s st o.dst c i = some st') ∨ (∃ t x, takeC P s st o.dst t x = some st') ∨ (∃ t parts, buildR P s st o.dst t parts = some st') := by
 unfold mOp at h
 split at h
 ·split at h
  ·split at h
   ·have h := oJ_ h
    split at h
    ·exact .inl ⟨_, _, _, h⟩
    ·cases h
   ·split at h
    ·have h := oJ_ h
     split at h
     ·exact .inl ⟨_, _, _, h⟩
     ·cases h
    ·cases h
   ·cases h
  ·cases h
 ·split at h
  ·cases h
  ·split at h
   ·have h := oJ_ h
    unfold callB at h
    obtain ⟨y, hy, rfl⟩ := oM_ h
    exact .inr (.inr (.inr (.inl ⟨y, rfl⟩)))
   ·split at h
    ·exact .inr (.inl ⟨_, _, oJ_ h⟩)
    ·cases h
 ·split at h
  ·exact .inr (.inr (.inl ⟨_, _, _, oJ_ h⟩))
  ·cases h
 ·split at h
  ·obtain ⟨y, hy, rfl⟩ := oM_ (oJ_ h)
   exact .inr (.inr (.inr (.inl ⟨y, rfl⟩)))
  ·split at h
   ·exact .inr (.inr (.inr (.inr (.inr (.inr (.inr (.inr (.inr (.inr ⟨_, _, oJ_ h⟩)))))))))
   ·cases h
 ·split at h
  ·exact .inr (.inr (.inr (.inr (.inl ⟨_, oJ_ h⟩))))
  ·cases h
 ·split at h
  ·exact .inr (.inr (.inr (.inr (.inr (.inl ⟨_, _, oJ_ h⟩)))))
  ·split at h
   ·exact .inr (.inr (.inr (.inr (.inr (.inr (.inr (.inr (.inr (.inl ⟨_, _, oJ_ h⟩)))))))))
   ·cases h
 ·split at h
  ·exact .inr (.inr (.inr (.inr (.inr (.inr (.inl ⟨_, _, oJ_ h⟩))))))
  ·cases h
 ·split at h
  ·exact .inr (.inr (.inr (.inr (.inr (.inr (.inr (.inl ⟨_, _, _, oJ_ h⟩)))))))
  ·cases h
 ·split at h
  ·exact .inr (.inr (.inr (.inr (.inr (.inr (.inr (.inl ⟨_, _, _, oJ_ h⟩)))))))
  ·cases h
 ·split at h
  ·exact .inr (.inr (.inr (.inr (.inr (.inr (.inr (.inr (.inl ⟨_, _, _, _, oJ_ h⟩))))))))
  ·cases h
 ·cases h
theorem argsO_alive : ∀ {l : List (V × Option Nat)} {cs : List C}, argsO st cs = some l → ∀ s2 ∈ sitesO l, ∃ x, st.ow s2 = some x
 | l, [], h, s2, hs => by
  simp only [argsO, oE_] at h
  subst h
  simp [sitesO] at hs
 | l, c :: r, h, s2, hs => by
  simp only [argsO] at h
  obtain ⟨q, hq, h⟩ := oB_ h
  obtain ⟨l', hl', rfl⟩ := oM_ h
  obtain ⟨x, so⟩ := q
  cases so with
  | none => exact argsO_alive hl' s2 (by simpa [sitesO] using hs)
  | some s3 =>
   simp only [sitesO, List.mem_cons] at hs
   rcases hs with rfl | hs
   ·unfold argO at hq
    split at hq
    ·obtain ⟨x0, hx0, e⟩ := oM_ hq
     simp only [Prod.mk.injEq, oE_] at e
     obtain ⟨rfl, rfl⟩ := e
     exact ⟨_, hx0⟩
    ·obtain ⟨x0, hx0, hq⟩ := oB_ hq
     obtain ⟨_, _, e⟩ := oM_ hq
     simp only [Prod.mk.injEq, oE_] at e
     obtain ⟨rfl, rfl⟩ := e
     exact ⟨_, hx0⟩
    ·simp at hq
   ·exact argsO_alive hl' s2 hs
theorem mOp_fresh {s2 : Nat} {st' : St} (h : mOp P env s st o = some (some st')) (hf : Fresh st s2) (hne : s2 ≠ s) : Fresh st' s2 := by
 rcases mOp_some h with ⟨t, cx, y, h⟩ | ⟨f, args, h⟩ | ⟨t, n, parts, h⟩ | ⟨v, rfl⟩ | ⟨t, h⟩ | ⟨t, c, h⟩ | ⟨t, c, h⟩ | ⟨t, c, lo, h⟩ | ⟨bb, sl, c, i, h⟩ | ⟨t, x, h⟩ | ⟨t9, parts9, h⟩
 rotate_left 3
 ·exact put_fresh hf (by simp [C.site])
 ·unfold allocN at h
  split at h
  ·obtain ⟨z, hz, h⟩ := oB_ h
   split at h
   ·obtain rfl := oJ_ h
    exact put_fresh ⟨hf.1, hf.2.1, hf.2.2.1, by simp only [upd_ne _ _ hne]; exact hf.2.2.2.1, hf.2.2.2.2⟩ (by simp only [C.site, ne_eq, oE_]; exact fun e => hne e.symm)
   ·cases h
  ·obtain ⟨z, hz, rfl⟩ := oM_ h
   exact put_fresh ⟨hf.1, hf.2.1, hf.2.2.1, by simp only [upd_ne _ _ hne]; exact hf.2.2.2.1, hf.2.2.2.2⟩ (by simp only [C.site, ne_eq, oE_]; exact fun e => hne e.symm)
 ·unfold takeL at h
  obtain ⟨s2, hr, h⟩ := oB_ h
  obtain ⟨x0, hx0, h⟩ := oB_ h
  obtain ⟨z, hz, rfl⟩ := oM_ h
  exact newO_fresh (hf.dropO _) hne
 ·unfold nilO at h
  split at h
  ·obtain ⟨p, hp, rfl⟩ := oM_ h
   exact newO_fresh hf hne
  ·cases h
 ·unfold tailO at h
  split at h
  ·rename_i r
   obtain ⟨p, hel, h⟩ := oB_ h
   obtain ⟨rows, hrows, h⟩ := oB_ h
   obtain ⟨x, hx, rfl⟩ := oM_ h
   refine put_fresh ⟨hf.1, hf.2.1, ?_, hf.2.2.2⟩ (by simp only [C.site, ne_eq, oE_]; exact fun e => hne e.symm)
   show upd (upd st.rw r none) s _ s2 = none
   rw [upd_ne _ _ hne]
   by_cases e : s2 = r
   ·subst e; rw [upd_same]
   ·rw [upd_ne _ _ e]; exact hf.2.2.1
  ·cases h
 ·obtain ⟨s3, l, x, rfl, hl, h⟩ := partO_some h
  rcases h with ⟨o2, c2, rfl, hc2, rfl⟩ | ⟨y, rfl⟩
  ·refine put_fresh ⟨hf.1, hf.2.1, hf.2.2.1, ?_, hf.2.2.2.2⟩ (by rw [hc2]; simp only [ne_eq, oE_]; exact fun e => hne e.symm)
   show upd (upd st.ow s3 _) s _ s2 = none
   rw [upd_ne _ _ hne, upd_ne _ _ (fun e => by rw [← e, hf.2.2.2.1] at hl; cases hl)]
   exact hf.2.2.2.1
  ·exact put_fresh hf (by simp [C.site])
 ·obtain ⟨r, s3, pa, hr, rfl⟩ := takeC_some h
  exact newO_fresh (takeO_fresh hr hf) hne
 ·obtain ⟨s3, z, rfl⟩ := buildR_some h
  exact newO_fresh (hf.dropO _) hne
 ·obtain ⟨r, z, q, hr, rfl⟩ := appO_some h
  have h1 : Fresh r.2 s2 := by
   rcases hr with e | ⟨s3, pa, hr⟩
   ·rw [e]; exact hf
   ·exact takeO_fresh hr hf
  exact newO_fresh (h1.dropO q) hne
 ·unfold callO at h
  obtain ⟨l, hl, h⟩ := oB_ h
  split at h
  rotate_left
  ·cases h
  obtain ⟨z, hz, h⟩ := oB_ h
  have hA : Fresh (afterO st l z) s2 := by
   refine ⟨fun t => killS_site (hf.1 t), hf.2.1, hf.2.2.1, ?_, hf.2.2.2.2⟩
   show backO z l 0 st.ow s2 = none
   rw [backO_no (fun hm => by obtain ⟨x, hx⟩ := argsO_alive hl s2 hm; rw [hf.2.2.2.1] at hx; cases hx)]
   exact hf.2.2.2.1
  split at h
  ·obtain rfl := oJ_ h
   exact newO_fresh hA hne
  ·split at h
   ·obtain rfl := oJ_ h
    exact hA
   ·obtain ⟨y, hy, rfl⟩ := oM_ h
    exact put_fresh hA (by simp [C.site])
 ·unfold litO at h
  split at h
  ·obtain ⟨p, hel, h⟩ := oB_ h
   obtain ⟨y, hy, h⟩ := oB_ h
   split at h
   ·obtain rfl := oJ_ h
    exact newO_fresh (hf.dropO y.2) hne
   ·cases h
  ·cases h
theorem mOp_keep {st' : St} (h : mOp P env s st o = some (some st')) {t : Nat} (ht : o.dst ≠ some t) : KeepC (st.φ t) (st'.φ t) := by
 rcases mOp_some h with ⟨ty, cx, y, h⟩ | ⟨f, args, h⟩ | ⟨ty, n, parts, h⟩ | ⟨v, rfl⟩ | ⟨ty, h⟩ | ⟨ty, c, h⟩ | ⟨ty, c, h⟩ | ⟨ty, c, lo, h⟩ | ⟨bb, sl, c, i, h⟩ | ⟨ty, x, h⟩ | ⟨t9, parts9, h⟩
 rotate_left 3
 ·rw [put_keep ht]; exact .inl rfl
 ·unfold allocN at h
  split at h
  ·obtain ⟨z, hz, h⟩ := oB_ h
   split at h
   ·obtain rfl := oJ_ h
    rw [put_keep ht]; exact .inl rfl
   ·cases h
  ·obtain ⟨z, hz, rfl⟩ := oM_ h
   rw [put_keep ht]; exact .inl rfl
 ·unfold takeL at h
  obtain ⟨s2, hr, h⟩ := oB_ h
  obtain ⟨x0, hx0, h⟩ := oB_ h
  obtain ⟨z, hz, rfl⟩ := oM_ h
  rw [put_keep ht]
  exact dropO_keep st (some _) t
 ·unfold nilO at h
  split at h
  ·obtain ⟨p, hp, rfl⟩ := oM_ h
   rw [put_keep ht]; exact .inl rfl
  ·cases h
 ·unfold tailO at h
  split at h
  ·obtain ⟨p, hel, h⟩ := oB_ h
   obtain ⟨rows, hrows, h⟩ := oB_ h
   obtain ⟨x, hx, rfl⟩ := oM_ h
   rw [put_keep ht]; exact .inl rfl
  ·cases h
 ·obtain ⟨s3, l, x, rfl, hl, h⟩ := partO_some h
  rcases h with ⟨o2, c2, rfl, hc2, rfl⟩ | ⟨y, rfl⟩
  ·rw [put_keep ht]; exact .inl rfl
  ·rw [put_keep ht]; exact .inl rfl
 ·obtain ⟨r, s3, pa, hr, rfl⟩ := takeC_some h
  rw [put_keep ht]
  exact takeO_keep hr t
 ·obtain ⟨s3, z, rfl⟩ := buildR_some h
  rw [put_keep ht]
  exact dropO_keep st (some _) t
 ·obtain ⟨r, z, q, hr, rfl⟩ := appO_some h
  rw [put_keep ht]
  have h1 : KeepC (st.φ t) (r.2.φ t) := by
   rcases hr with e | ⟨s3, pa, hr⟩
   ·rw [e]; exact .inl rfl
   ·exact takeO_keep hr t
  exact h1.trans (dropO_keep _ _ _)
 ·unfold callO at h
  obtain ⟨l, hl, h⟩ := oB_ h
  split at h
  rotate_left
  ·cases h
  obtain ⟨z, hz, h⟩ := oB_ h
  split at h
  ·obtain rfl := oJ_ h
   rw [put_keep ht]
   exact killS_keep _ _
  ·split at h
   ·obtain rfl := oJ_ h
    exact killS_keep _ _
   ·rename_i d hdst
    obtain ⟨y, hy, rfl⟩ := oM_ h
    rw [put_keep (by rw [← hdst]; exact ht)]
    exact killS_keep _ _
 ·unfold litO at h
  split at h
  ·obtain ⟨p, hel, h⟩ := oB_ h
   obtain ⟨y, hy, h⟩ := oB_ h
   split at h
   ·obtain rfl := oJ_ h
    rw [put_keep ht]
    exact dropO_keep _ _ _
   ·cases h
  ·cases h
end
end Go.Proofs.YtgkohnjpnnofhaaGreat.Den
