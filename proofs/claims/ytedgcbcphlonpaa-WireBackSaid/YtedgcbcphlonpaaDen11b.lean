/- A reader of Go code in plain values: the same, with what comes behind handed in. -/
import Derived.Test.YtedgcbcphlonpaaDen11
namespace Go.Proofs.Ytedgcbcphlonpaa.Den
open Go.RowKit
set_option linter.unusedSimpArgs false
set_option linter.unusedVariables false
set_option linter.unnecessarySimpa false

def gateK (gs : List (V × Bool)) (y : Option V) : Option V := match gs with
  | [] => y
  | p :: r => (gateL (p :: r) (some .any)).bind fun _ => y
theorem gateK_eq (gs : List (V × Bool)) (y : Option V) : gateK gs y = (gateL gs (some .any)).bind fun _ => y := by cases gs <;> rfl
noncomputable def stepBK (P : Program) (env : FuncId → List V → Option V) (s : Nat) (st : St) (o : Oper) (K : C → Option (List V) → Option V) : Option V :=
  match o.op with
  | .move x | .assign x => K (st.ev x) none
  | .pick c x y => (pickV (st.rd c) (st.rd x) (st.rd y)).bind fun v => K (.v v) none
  | .load t x => (loadC P st t (st.ev x)).bind fun v => K (.v v) none
  | .fieldAddr t x f => match placeP P t f with
    | some p => match p.2 with
      | 0 => none
      | _ + 1 => match st.ev x with
        | .v x => (ptrF p.1 x).bind fun v => K (.v v) none
        | _ => none
    | none => none
  | .field t x f => (fieldV P t (st.rd x) f).bind fun v => K (.v v) none
  | .indexAddr t x i => (idxV P t (st.rd x) (st.rd i)).bind fun v => K (.v v) none
  | .index t x i => (scal2 P (Instr.index t) (st.rd x) (st.rd i)).bind fun v => K (.v v) none
  | .binOp op t x y _ => (bin2 P op t x y (st.rd x) (st.rd y)).bind fun v => K (.v v) none
  | .unOp op _ x => (scal1 P (Op.unary op) (st.rd x)).bind fun v => K (.v v) none
  | .convert a b x => match st.ev x with
    | .ref s p gs => match convK P a b with
      | 2 => (gateL gs ((rowsR st s p).bind fun rows => b2s (.sl rows))).bind fun v => K (.v v) none
      | _ => none
    | _ => (convV P a b (st.rd x)).bind fun v => K (.v v) none
  | .makeInterface t x => (scal1 P (Instr.makeInterface t) (st.rd x)).bind fun v => K (.v v) none
  | .slice t x lo hi none => (sliceV P t (st.rd x) (lo.map st.rd) (hi.map st.rd)).bind fun v => K (.v v) none
  | .extract x i => (extractV (st.rd x) i).bind fun v => K (.v v) none
  | .build t parts => (buildO P t (parts.toList.map fun p => (p.1, st.rd p.2))).bind fun v => K (.v v) none
  | .buildSlice t n parts => (buildSliceO P t n (parts.toList.map fun p => (p.1, st.rd p.2))).bind fun v => K (.v v) none
  | .makeFunc (.func f) first caps => match first.size with
    | 0 => K (.v (.fn f (caps.toList.map st.rd))) none
    | _ + 1 => none
  | .alloc t => match zeroP P t with
    | some z => K (.box s ⟨[], 0⟩) (some z)
    | none => none
  | .box _ x => ((st.rd x).cellsO).bind fun z => K (.box s ⟨[], 0⟩) (some z)
  | .call c => match c.callee with
    | .builtin .len => (lenR P st c.argTypes (c.args.toList.map st.ev)).bind fun v => K (.v v) none
    | .builtin .min => match c.args.toList with
      | [x, y] => (scal2 P (fun u v => Builtin.min_ c.argTypes o.type #[u, v]) (st.rd x) (st.rd y)).bind fun v => K (.v v) none
      | _ => none
    | .builtin .max => match c.args.toList with
      | [x, y] => (scal2 P (fun u v => Builtin.max_ c.argTypes o.type #[u, v]) (st.rd x) (st.rd y)).bind fun v => K (.v v) none
      | _ => none
    | .value f => (callV env (st.rd f) (c.args.toList.map st.rd)).bind fun v => K (.v v) none
    | _ => none
  | _ => none
noncomputable def stepHK (P : Program) (env : FuncId → List V → Option V) (s : Nat) (st : St) (o : Oper) (K : C → Option (List V) → Option V) : Option V := match addrOp P st o with
  | some r => match r.1 with
    | .box _ ⟨[], _⟩ => K r.1 none
    | _ => r.2.bind fun _ => K r.1 none
  | none => stepBK P env s st o K
noncomputable def shOpK (P : Program) (env : FuncId → List V → Option V) (ops : Array Oper) (s : Nat) (st : St) (o : Oper) (K : C → Option (List V) → Option V) : Option V := match o.guard with
  | none => stepHK P env s st o K
  | some p => match (ops[p.1]?).bind (·.dst) with
    | some t => match addrOp P st o with
      | some r => (guardV (st.asV (st.φ t)) p.2 r.2).bind fun _ => K (r.1.addG (st.asV (st.φ t), p.2)) none
      | none => (guardV (st.asV (st.φ t)) p.2 (stepHK P env s st o fun c b => match b with
        | none => some (st.asV c)
        | some _ => none)).bind fun v => K (.v v) none
    | none => none
def appV (k : Nat) (rows : List (List V)) (y : V) : Option V := (appR k rows y).map .sl
def appendK (P : Program) (s : Nat) (st : St) (dst : Option Nat) (t : TypeId) (c : C) (y : V) (K : St → Option V) : Option V := match elemP P t with
  | some p => match rowsAt st p.1 c with
    | some rows => (appV p.2 rows y).bind fun x => K ({ st with rw := upd (dropRow st c) s (some (p.1, slL x)) }.put dst (.row s))
    | none => none
  | none => none
def spliceV (l : List V) (off k : Nat) (y : V) : Option V := y.cellsO.bind fun cs => (spliceO l off k cs).map .agg
def storeK (P : Program) (st : St) (dst : Option Nat) (t : TypeId) (c : C) (y : V) (K : St → Option V) : Option V := match c with
  | .box s' off => gateK off.gs (match st.bx s' with
    | some l => match sizeP P t with
      | some k => (spliceV l off.o k y).bind fun x => K ({ st with bx := upd st.bx s' (some (aggL x)) }.put dst (.v .any))
      | none => none
    | none => none)
  | _ => none
/-- what is given away, handed on -/
def giveK (st : St) (s : Nat) (c : C) (K : List V → Option Nat → Option V) : Option V := match c with
  | .ref s2 [] [] => if s2 = s then none else match st.ow s2 with
    | some z => z.cellsO.bind fun cs => K cs (some s2)
    | none => none
  | c => (st.asV c).cellsO.bind fun cs => K cs none
def storeOK (P : Program) (st : St) (dst : Option Nat) (t : TypeId) (s : Nat) (p : List Stp) (q : Stp) (gs : List (V × Bool)) (cy : C) (K : St → Option V) : Option V :=
  gateK gs (match sizeP P t with
    | some k => match st.ow s with
      | some x => giveK st s cy fun cs s2 => (setV x p q k cs).bind fun x' => K (({ (dropO st s2).kill s p.length with ow := upd (dropO st s2).ow s (some x') }).put dst (.v .any))
      | none => none
    | none => none)
def ownOpK (P : Program) (s : Nat) (st : St) (o : Oper) (K : St → Option V) : Option (Option V) := match o.op with
  | .store t x y => match st.ev x with
    | .adr s' p q gs => some (storeOK P st o.dst t s' p q gs (st.ev y) K)
    | _ => none
  | .makeSlice t l c => some (match elemP P t with
    | some p => match zeroP P p.1 with
      | some z => (makeN p.2 z (st.rd l) (st.rd c)).bind fun y => K ({ st with ow := upd st.ow s (some y) }.put o.dst (.ref s [] []))
      | none => none
    | none => none)
  | .alloc t => match st.isRf o.dst with
    | true => some (match zeroP P t with
      | some z => K ({ st with ow := upd st.ow s (some (.obj z)) }.put o.dst (.adr s [] ⟨none, 0, 0⟩ []))
      | none => none)
    | false => none
  | .box t x => match st.isRf o.dst with
    | true => some (giveK st s (st.ev x) fun cs s2 => K ({ dropO st s2 with ow := upd (dropO st s2).ow s (some (.obj cs)) }.put o.dst (.adr s [] ⟨none, 0, 0⟩ [])))
    | false => none
  | .convert t1 t2 x => match st.isRf o.dst with
    | true => match convK P t1 t2 with
      | 1 => some ((s2bT (st.rd x)).bind fun y => K ({ st with ow := upd st.ow s (some y) }.put o.dst (.ref s [] [])))
      | _ => none
    | false => none
  | .buildSlice t n parts => match st.isRf o.dst with
    | true => some (match elemP P t with
      | some p => (buildSliceO P t n (parts.toList.map fun p => (p.1, st.rd p.2))).bind fun y => K ({ st with rw := upd st.rw s (some (p.1, slL y)) }.put o.dst (.row s))
      | none => none)
    | false => none
  | _ => none
noncomputable def stepTK0 (P : Program) (env : FuncId → List V → Option V) (s : Nat) (st : St) (o : Oper) (K : St → Option V) : Option V :=
  match o.op with
  | .store t x y => storeK P st o.dst t (st.ev x) (st.rd y) K
  | .call ⟨.builtin .append, args, tys⟩ => match args.toList, tys.toList with
    | [x, y], [t, t'] => if t' = t then appendK P s st o.dst t (st.ev x) (st.rd y) K else none
    | _, _ => none
  | _ => stepHK P env s st o fun c b => K (st.app s o.dst (c, b))
noncomputable def stepTK (P : Program) (env : FuncId → List V → Option V) (s : Nat) (st : St) (o : Oper) (K : St → Option V) : Option V := match ownOpK P s st o K with
  | some r => r
  | none => stepTK0 P env s st o K
noncomputable def shTK (P : Program) (env : FuncId → List V → Option V) (ops : Array Oper) (s : Nat) (st : St) (o : Oper) (K : St → Option V) : Option V := match o.guard with
  | none => stepTK P env s st o K
  | some _ => shOpK P env ops s st o fun c b => K (st.app s o.dst (c, b))
noncomputable def denHK (P : Program) (env : FuncId → List V → Option V) (ops : Array Oper) (nx0 : Nat) : List Oper → Nat → St → (St → Option V) → Option V
  | [], _, st, K => K st
  | o :: r, k, st, K => shOpK P env ops (nx0 + k) st o fun c b => denHK P env ops nx0 r (k + 1) (st.app (nx0 + k) o.dst (c, b)) K
noncomputable def denTK (P : Program) (env : FuncId → List V → Option V) (ops : Array Oper) (nx0 : Nat) : List Oper → Nat → St → (St → Option V) → Option V
  | [], _, st, K => K st
  | o :: r, k, st, K => shTK P env ops (nx0 + k) st o fun st' => denTK P env ops nx0 r (k + 1) st' K
noncomputable def fltK (P : Program) (st : St) (o : Oper) (K : C → Option V) : Option V := match o.op with
  | .move x => K (st.ev x)
  | .slice t x lo hi none => (sliceV P t (st.rd x) (lo.map st.rd) (hi.map st.rd)).bind fun y => (litV y).bind fun y => K (.v y)
  | .binOp op t x y _ => (bin2 P op t x y (st.rd x) (st.rd y)).bind fun y => (litV y).bind fun y => K (.v y)
  | _ => none
noncomputable def denFlK (P : Program) (ops : Array Oper) (nx0 : Nat) : List Nat → St → (St → Option V) → Option V
  | [], st, K => K st
  | i :: r, st, K => match ops[i]? with
    | some o => match o.guard with
      | none => fltK P st o fun c => denFlK P ops nx0 r (st.app (nx0 + i) o.dst (c, none)) K
      | some _ => none
    | none => none
noncomputable def denTlK (P : Program) (env : FuncId → List V → Option V) (ops : Array Oper) (nx0 : Nat) : List Nat → St → (St → Option V) → Option V
  | [], st, K => K st
  | i :: r, st, K => match ops[i]? with
    | some o => shTK P env ops (nx0 + i) st o fun st' => denTlK P env ops nx0 r st' K
    | none => none
noncomputable def denRK (P : Program) (env : FuncId → List V → Option V) (ops : Array Oper) (draw : Bool) (n : Nat) (st : St) (K : St → Option V) : Option V := match draw with
  | true => match decide (n ≤ ops.size) with
    | true => denHK P env ops st.nx (ops.toList.take n) 0 st fun st1 => denTK P env ops st.nx (ops.toList.drop n) n st1 K
    | false => denFlK P ops st.nx (fltL ops) st fun st1 => denTlK P env ops st.nx (sqL ops) st1 K
  | false => denTK P env ops st.nx ops.toList 0 st K

section
variable {P : Program} {Dw : World → Prop} {env : FuncId → List V → Option V} {st : St} {o : Oper} {s : Nat} {ops : Array Oper}
theorem vres_bind {x : Option V} {K : C → Option (List V) → Option V} : (vres x).bind (fun r => K r.1 r.2) = x.bind fun v => K (.v v) none := by cases x <;> rfl
theorem stepBK_eq (K : C → Option (List V) → Option V) : stepBK P env s st o K = (stepB P env s st o).bind fun r => K r.1 r.2 := by
  obtain ⟨dst, op, ty, pos, after, guard⟩ := o
  unfold stepBK stepB
  cases op <;> simp only [vres_bind, Option.bind_some, Option.bind_none]
  case alloc t => cases zeroP P t <;> rfl
  case box t x => cases (st.rd x).cellsO <;> rfl
  case makeFunc f first caps =>
    cases f <;> simp only [Option.bind_none]
    cases hs : first.size with
    | zero => simp [vres]
    | succ n => simp
  case slice t x lo hi mx => cases mx <;> simp only [vres_bind, Option.bind_none]
  case fieldAddr t x f =>
    cases placeP P t f with
    | none => rfl
    | some p =>
      obtain ⟨p1, p2⟩ := p
      cases p2 with
      | zero => rfl
      | succ q =>
        simp only [Option.bind_some]
        rw [if_neg (by omega)]
        cases st.ev x with
        | v z => simp only [fieldC]; cases ptrF p1 z <;> rfl
        | _ => rfl
  case convert t1 t2 x =>
    cases st.ev x with
    | ref s2 p gs =>
      simp only
      generalize convK P t1 t2 = kk
      rcases kk with _ | _ | _ | kk
      · rfl
      · rfl
      · simp only [vres_bind]
      · rfl
    | _ => simp only [vres_bind]
  case call c =>
    obtain ⟨callee, args, tys⟩ := c
    cases callee with
    | invoke r m => rfl
    | value f => simp only [vres_bind]
    | builtin b =>
      cases b <;> simp only [vres_bind, Option.bind_none]
      all_goals
        generalize args.toList = l
        rcases l with _ | ⟨x, _ | ⟨y, _ | ⟨z, r⟩⟩⟩
        · rfl
        · rfl
        · simp only [vres_bind]
        · rfl
theorem addrOp_box {r : C × Option V} (h : addrOp P st o = some r) {s2 o2 : Nat} (hr : r.1 = .box s2 ⟨[], o2⟩) : ∃ z, r.2 = some z := by
  unfold addrOp at h
  split at h
  · split at h
    · split at h
      · rename_i off _
        simp only [Option.some.injEq] at h
        subst h
        simp only [C.box.injEq, Off.mk.injEq] at hr
        exact ⟨.any, by simp only [hr.2.1, gateL]⟩
      · simp only [Option.some.injEq] at h
        subst h
        cases hr
      · cases h
    · cases h
  · split at h
    · split at h
      · simp only [Option.some.injEq] at h
        subst h
        cases hr
      · cases h
    · cases h
  · split at h
    · split at h
      · split at h
        · simp only [Option.some.injEq] at h
          subst h
          cases hr
        · cases h
      · cases h
    · cases h
  · cases h
theorem stepHK_eq (K : C → Option (List V) → Option V) : stepHK P env s st o K = (stepH P env s st o).bind fun r => K r.1 r.2 := by
  unfold stepHK stepH
  cases hr : addrOp P st o with
  | some r =>
    simp only
    split
    · rename_i s2 o2 he
      obtain ⟨z, hz⟩ := addrOp_box hr he
      rw [hz]; rfl
    · cases r.2 <;> rfl
  | none => exact stepBK_eq K
theorem shOpK_eq (K : C → Option (List V) → Option V) : shOpK P env ops s st o K = (shOp P env ops s st o).bind fun r => K r.1 r.2 := by
  unfold shOpK shOp
  cases o.guard with
  | none => exact stepHK_eq K
  | some p =>
    simp only
    cases (ops[p.1]?).bind (·.dst) with
    | none => rfl
    | some t =>
      simp only
      cases hr : addrOp P st o with
      | some r =>
        simp only
        cases guardV (st.asV (st.φ t)) p.2 r.2 <;> rfl
      | none =>
        simp only
        rw [vres_bind, stepHK_eq]
        congr 2
        cases stepH P env s st o with
        | none => rfl
        | some r => obtain ⟨c, b⟩ := r; cases b <;> rfl
theorem giveK_eq (c : C) (K : List V → Option Nat → Option V) : giveK st s c K = (giveC st s c).bind fun y => K y.1 y.2 := by
  have gen : ∀ c : C, ((st.asV c).cellsO.bind fun cs => K cs none) = ((st.asV c).cellsO.map fun cs => (cs, (none : Option Nat))).bind fun y => K y.1 y.2 := fun c => by cases (st.asV c).cellsO <;> rfl
  cases c with
  | ref s2 p gs =>
    cases p with
    | cons q r => exact gen (.ref s2 (q :: r) gs)
    | nil =>
      cases gs with
      | cons q r => exact gen (.ref s2 [] (q :: r))
      | nil =>
        simp only [giveK, giveC]
        by_cases e : s2 = s
        · rw [if_pos e, if_pos e]; rfl
        · rw [if_neg e, if_neg e]
          cases st.ow s2 with
          | none => rfl
          | some z => simp only [Option.bind_some]; cases z.cellsO <;> rfl
  | v x => exact gen (.v x)
  | nil => exact gen .nil
  | box s2 o => exact gen (.box s2 o)
  | row s2 => exact gen (.row s2)
  | adr s2 p q gs => exact gen (.adr s2 p q gs)
theorem ownOpK_eq (K : St → Option V) : ownOpK P s st o K = (ownOp P s st o).map (·.bind K) := by
  obtain ⟨dst, op, ty, pos, after, guard⟩ := o
  unfold ownOpK ownOp
  cases op <;> simp only [Option.map_none]
  case store t x y =>
    cases st.ev x with
    | adr s' p q gs =>
      simp only [Option.map_some, Option.some.injEq]
      unfold storeOK storeO
      rw [gateK_eq]
      cases gateL gs (some V.any) with
      | none => rfl
      | some z =>
        simp only [Option.bind_some]
        cases sizeP P t with
        | none => rfl
        | some k =>
          simp only [Option.bind_some]
          cases st.ow s' with
          | none => rfl
          | some x =>
            simp only [Option.bind_some, giveK_eq]
            cases giveC st s' (st.ev y) with
            | none => rfl
            | some y =>
              simp only [Option.bind_some]
              cases setV x p q k y.1 <;> rfl
    | _ => rfl
  case makeSlice t l c =>
    simp only [Option.map_some, Option.some.injEq]
    unfold makeO
    cases elemP P t with
    | none => rfl
    | some p =>
      simp only [Option.bind_some]
      cases zeroP P p.1 with
      | none => rfl
      | some z =>
        simp only [Option.bind_some]
        cases makeN p.2 z (st.rd l) (st.rd c) <;> rfl
  case buildSlice t n parts =>
    cases st.isRf dst with
    | false => rfl
    | true =>
      simp only [Option.map_some, Option.some.injEq]
      unfold rowO
      cases elemP P t with
      | none => rfl
      | some p =>
        simp only [Option.bind_some]
        cases buildSliceO P t n (parts.toList.map fun p => (p.1, st.rd p.2)) <;> rfl
  case alloc t =>
    cases st.isRf dst with
    | false => rfl
    | true =>
      simp only [Option.map_some, Option.some.injEq]
      unfold allocO
      cases zeroP P t <;> rfl
  case box t x =>
    cases st.isRf dst with
    | false => rfl
    | true =>
      simp only [Option.map_some, Option.some.injEq]
      unfold boxO
      rw [giveK_eq]
      cases giveC st s (st.ev x) <;> rfl
  case convert t1 t2 x =>
    cases st.isRf dst with
    | false => rfl
    | true =>
      simp only
      generalize convK P t1 t2 = kk
      rcases kk with _ | _ | kk
      · rfl
      · simp only [Option.map_some, Option.some.injEq]
        unfold bytesO
        cases s2bT (st.rd x) <;> rfl
      · rfl
theorem stepTK0_eq (K : St → Option V) : stepTK0 P env s st o K = (stepT0 P env s st o).bind K := by
  have gen : (stepHK P env s st o fun c b => K (st.app s o.dst (c, b))) = ((stepH P env s st o).map (st.app s o.dst)).bind K := by
    rw [stepHK_eq]
    cases stepH P env s st o <;> rfl
  unfold stepTK0 stepT0
  split
  · rename_i t x y hop
    rw [hop]
    dsimp only
    unfold storeK storeT
    cases st.ev x with
    | box s' off =>
      simp only [gateK_eq]
      cases gateL off.gs (some .any) with
      | none => rfl
      | some z9 =>
      simp only [Option.bind_some]
      cases st.bx s' with
      | none => rfl
      | some l =>
        simp only [Option.bind_some]
        unfold spliceV
        cases sizeP P t with
        | none => cases (st.rd y).cellsO <;> rfl
        | some k =>
          simp only [Option.bind_some]
          cases (st.rd y).cellsO with
          | none => rfl
          | some cs =>
            simp only [Option.bind_some]
            cases spliceO l off.o k cs <;> rfl
    | _ => rfl
  · rename_i args tys hop
    rw [hop]
    simp only
    split
    · rename_i x y t t' hx ht
      simp only [hx, ht]
      by_cases e : t' = t
      · rw [if_pos e, if_pos e]
        unfold appendK appendT
        cases elemP P t with
        | none => rfl
        | some p =>
          simp only [Option.bind_some]
          cases rowsAt st p.1 (st.ev x) with
          | none => rfl
          | some rows =>
            simp only [Option.bind_some, appV]
            cases appR p.2 rows (st.rd y) <;> rfl
      · rw [if_neg e, if_neg e]; rfl
    · rename_i hno
      split
      · rename_i x y t t' hx ht
        exact (hno x y t t' hx ht).elim
      · rfl
  · rename_i h1 h2
    rw [gen]
    split
    · rename_i t x y hop; exact (h1 t x y hop).elim
    · rename_i args tys hop; exact (h2 args tys hop).elim
    · rfl
theorem stepTK_eq (K : St → Option V) : stepTK P env s st o K = (stepT P env s st o).bind K := by
  unfold stepTK stepT
  rw [ownOpK_eq]
  cases ownOp P s st o with
  | none => exact stepTK0_eq K
  | some r => rfl
theorem shTK_eq (K : St → Option V) : shTK P env ops s st o K = (shT P env ops s st o).bind K := by
  unfold shTK shT
  cases o.guard with
  | none => exact stepTK_eq K
  | some p =>
    simp only
    rw [shOpK_eq]
    cases shOp P env ops s st o <;> rfl
theorem denHK_eq {nx0 : Nat} : ∀ (l : List Oper) (k : Nat) (st : St) (K : St → Option V), denHK P env ops nx0 l k st K = (denH P env ops nx0 l k st).bind K
  | [], _, _, _ => rfl
  | o :: r, k, st, K => by
    simp only [denHK, denH]
    rw [shOpK_eq]
    cases shOp P env ops (nx0 + k) st o with
    | none => rfl
    | some x => simp only [Option.bind_some]; exact denHK_eq r _ _ K
theorem denTK_eq {nx0 : Nat} : ∀ (l : List Oper) (k : Nat) (st : St) (K : St → Option V), denTK P env ops nx0 l k st K = (denT P env ops nx0 l k st).bind K
  | [], _, _, _ => rfl
  | o :: r, k, st, K => by
    simp only [denTK, denT]
    rw [shTK_eq]
    cases shT P env ops (nx0 + k) st o with
    | none => rfl
    | some x => simp only [Option.bind_some]; exact denTK_eq r _ _ K
theorem litV_bind {X : Option V} {K : C → Option V} : (X.bind fun y => (litV y).bind fun y => K (.v y)) = ((X.bind litV).map C.v).bind K := by
  cases X with
  | none => rfl
  | some y =>
    simp only [Option.bind_some]
    cases litV y <;> rfl
theorem fltK_eq (K : C → Option V) : fltK P st o K = (fltOp P st o).bind K := by
  obtain ⟨dst, op, ty, pos, after, guard⟩ := o
  unfold fltK fltOp
  cases op <;> try rfl
  case slice t x lo hi mx =>
    cases mx with
    | some _ => rfl
    | none => exact litV_bind
  case binOp => exact litV_bind
theorem denFlK_eq {nx0 : Nat} : ∀ (l : List Nat) (st : St) (K : St → Option V), denFlK P ops nx0 l st K = (denFl P ops nx0 l st).bind K
  | [], st, K => rfl
  | i :: r, st, K => by
    simp only [denFlK, denFl]
    cases ho : ops[i]? with
    | none => rfl
    | some o =>
      simp only
      cases hg : o.guard with
      | some _ => rfl
      | none =>
        simp only
        rw [fltK_eq]
        cases fltOp P st o with
        | none => rfl
        | some c => simp only [Option.bind_some]; exact denFlK_eq r _ K
theorem denTlK_eq {nx0 : Nat} : ∀ (l : List Nat) (st : St) (K : St → Option V), denTlK P env ops nx0 l st K = (denTl P env ops nx0 l st).bind K
  | [], st, K => rfl
  | i :: r, st, K => by
    simp only [denTlK, denTl]
    cases ho : ops[i]? with
    | none => rfl
    | some o =>
      simp only
      rw [shTK_eq]
      cases shT P env ops (nx0 + i) st o with
      | none => rfl
      | some x => simp only [Option.bind_some]; exact denTlK_eq r _ K
theorem denRK_eq {draw : Bool} {n : Nat} (K : St → Option V) : denRK P env ops draw n st K = (denR P env ops draw n st).bind K := by
  unfold denRK denR
  cases draw with
  | false => exact denTK_eq _ _ _ _
  | true =>
    cases decide (n ≤ ops.size) with
    | true =>
      simp only
      rw [denHK_eq]
      cases denH P env ops st.nx (ops.toList.take n) 0 st with
      | none => rfl
      | some x => simp only [Option.bind_some]; exact denTK_eq _ _ _ _
    | false =>
      simp only
      rw [denFlK_eq]
      cases denFl P ops st.nx (fltL ops) st with
      | none => rfl
      | some x => simp only [Option.bind_some]; exact denTlK_eq _ _ _
end
end Go.Proofs.Ytedgcbcphlonpaa.Den
