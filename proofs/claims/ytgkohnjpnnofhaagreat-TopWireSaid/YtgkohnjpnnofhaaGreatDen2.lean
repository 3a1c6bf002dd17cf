/- A reader of Go code in plain values: one operation, and why it is right. -/
import Derived.Test.YtgkohnjpnnofhaaGreatDenT2
import Derived.Great.BuildSlice
import Derived.Laws.Tables
import Derived.Laws.Cells
import Derived.Laws.Slices
import Derived.Laws.BytesArg
import Derived.Laws.IdiomStrings
namespace Go.Proofs.YtgkohnjpnnofhaaGreat.Den
set_option linter.unusedSimpArgs false
set_option linter.unusedVariables false
open Go.RowKit
def fillL (cells : List V) : List (Nat × Nat × V) → Option (List V)
 | [] => some cells
 | p :: rest => p.2.2.cellsO.bind fun cs => (spliceO cells p.1 p.2.1 cs).bind fun c => fillL c rest
def placesP (P : Program) (t : TypeId) : Option (List (Nat × Nat)) := match P.underlying t with
 | some (.struct fs) => fs.toList.mapM fun f => (P.info? f.type).map fun i => (f.offset, i.size)
 | _ => none
def partsL (ps : List (Nat × Nat)) : List (Nat × V) → Option (List (Nat × Nat × V))
 | [] => some []
 | p :: rest => match ps[p.1]? with
  | some q => match partsL ps rest with
   | some l => some ((q.1, q.2, p.2) :: l)
   | none => none
  | none => none
def buildO (P : Program) (t : TypeId) (parts : List (Nat × V)) : Option V := match placesP P t, zeroP P t with
 | some ps, some z => match partsL ps parts with
  | some l => (fillL z l).map .agg
  | none => none
 | _, _ => none
def chunks {α : Type} (k : Nat) : Nat → List α → List (List α)
 | 0, _ => []
 | n + 1, l => l.take k :: chunks k n (l.drop k)
def slcB (k n : Nat) (z : List V) (parts : List (Nat × V)) : Option V :=
 if z.length = k ∧ 0 < k ∧ 0 < n ∧ n * k ≤ 16777216 then (fillL (List.replicate n z).flatten (parts.map fun p => (p.1 * k, k, p.2))).map fun l => .sl (chunks k n l) else none
def buildSliceO (P : Program) (t : TypeId) (n : Nat) (parts : List (Nat × V)) : Option V := match P.underlying t with
 | some (.slice e) => match sizeP P e, zeroP P e with
  | some k, some z => slcB k n z parts
  | _, _ => none
 | _ => none
def callV (env : FuncId → List V → Option V) (x : V) (args : List V) : Option V := match x with
 | .fn g caps => if g < 1000000 then env g (args ++ caps) else none
 | _ => none
def lenS : List V → Option V
 | [.sl rows] => some (.lit (.int .i64 rows.length))
 | _ => none
def lenT : List V → Option V
 | [.lit (.string s)] => some (.lit (.int .i64 s.size))
 | _ => none
def lenO (P : Program) (tys : Array TypeId) (xs : List V) : Option V := match (tys[0]?).bind P.underlying with
 | some (.slice _) => lenS xs
 | some .string => lenT xs
 | _ => none
def vres (x : Option V) : Option (C × Option (List V)) := x.map fun v => (C.v v, none)
def gate (x : V) (w : Bool) (y : Option V) : Option V := match x with
 | .lit (.bool b) => if (b == w) = true then y else none
 | _ => none
def gateL : List (V × Bool) → Option V → Option V
 | [], y => y
 | p :: r, y => gate p.1 p.2 (gateL r y)
def nodeR (st : St) (s : Nat) (p : List Stp) (q : Stp) : Option (List V) := (st.ow s).bind fun x => (getV x p).bind fun y => nodeL y q.i q.k
def rowsR (st : St) (s : Nat) (p : List Stp) : Option (List (List V)) := (st.ow s).bind fun x => (getV x p).bind fun y => match y with
 | .osl _ rows => some rows
 | _ => none
def natOf : V → Nat
 | .lit (.int _ n) => n.toNat
 | _ => 0
def inB (n : Nat) : V → Option V
 | .lit (.int _ i) => if 0 ≤ i ∧ i.toNat < n then some .any else none
 | _ => none
def St.isRf (st : St) : Option Nat → Bool
 | some d => st.rf.contains d
 | none => false
def loadC (P : Program) (st : St) (t : TypeId) (c : C) : Option V := (kindP P t).bind fun k => match c with
 | .box s off => gateL off.gs ((st.bx s).bind fun l => ldk k (l.drop off.o))
 | .adr s p q gs => gateL gs ((nodeR st s p q).bind fun l => (ldk k (l.drop q.j)).bind pureO)
 | .v x => ldp k x
 | _ => none
def ptrF (d : Nat) (x : V) : Option V := match x with
 | .ptr l => some (.ptr (l.drop d))
 | _ => none
def fieldC (d : Nat) : C → Option C
 | .v x => (ptrF d x).map .v
 | _ => none
def arrP (P : Program) (t : TypeId) : Option (Nat × Nat) := match P.underlying t with
 | some (.array n e) => (sizeP P e).map fun k => (n, k)
 | _ => none
def objN (x : V) : Option V := match x with
 | .obj _ => some .any
 | _ => none
def addrOp (P : Program) (st : St) (o : Oper) : Option (C × Option V) := match o.op with
 | .fieldAddr t x f => match placeP P t f with
  | some (d, _ + 1) => match st.ev x with
   | .box s off => some (.box s ⟨off.gs, off.o + d⟩, gateL off.gs (some .any))
   | .adr s p q gs => some (.adr s p ⟨q.i, q.j + d, q.k⟩ gs, gateL gs (some .any))
   | _ => none
  | _ => none
 | .indexAddr t x i => match st.ev x with
  | .ref s p gs => match elemSz P t with
   | some k => some (.adr s p ⟨some (natOf (st.rd i)), 0, k⟩ gs, gateL gs ((rowsR st s p).bind fun rows => inB rows.length (st.rd i)))
   | none => none
  | .adr s p q gs => match arrP P t with
   | some (n, k) => if q.i = some 0 ∧ q.j = 0 ∧ q.k = k then some (.adr s p ⟨some (natOf (st.rd i)), 0, k⟩ gs, gateL gs (inB n (st.rd i))) else match q.i with
    | none => some (.adr s p ⟨none, q.j + natOf (st.rd i) * k, 0⟩ gs, gateL gs (inB n (st.rd i)))
    | some _ => none
   | none => none
  | _ => none
 | .load t x => match st.isRf o.dst with
  | true => match kindP P t with
   | some none => match st.ev x with
    | .adr s p q gs => some (.ref s (p ++ [q]) gs, gateL gs ((nodeR st s p q).bind fun l => (l[q.j]?).bind ownO))
    | _ => none
   | _ => none
  | false => none
 | .move x => match o.guard with
  | some _ => match st.ev x with
   | .ref s p gs => some (.ref s p gs, gateL gs (some .any))
   | .adr s p q gs => some (.adr s p q gs, gateL gs (some .any))
   | _ => none
  | none => none
 | .nilCheck x => match st.ev x with
  | .adr s p q gs => some (.adr s p q gs, gateL gs (some .any))
  | .box s off => some (.box s ⟨off.gs, off.o⟩, gateL off.gs (some .any))
  | .ref s [] gs => some (.adr s [] ⟨none, 0, 0⟩ gs, gateL gs ((st.ow s).bind objN))
  | _ => none
 | _ => none
def C.addG (r : V × Bool) : C → C
 | .box s off => .box s ⟨r :: off.gs, off.o⟩
 | .adr s p q gs => .adr s p q (r :: gs)
 | .ref s p gs => .ref s p (r :: gs)
 | c => c
def byteOf : List V → Option Int
 | [.lit (.int .u8 n)] => some n
 | _ => none
def bytesL : List (List V) → Option (List Int)
 | [] => some []
 | r :: l => (byteOf r).bind fun n => (bytesL l).map (n :: ·)
def b2s (x : V) : Option V := match x with
 | .sl rows => (bytesL rows).map fun xs => .lit (.string (strOfNums xs))
 | _ => none
def bytesR (s : ByteArray) : List (List V) := s.data.toList.map fun b => [.lit (.int .u8 (b.toNat : Int))]
def s2b (x : V) : Option V := match x with
 | .lit (.string s) => if s.size ≤ maxLen then some (.sl (bytesR s)) else none
 | _ => none
def convK (P : Program) (a b : TypeId) : Nat := match P.underlying a, P.underlying b with
 | some (.slice e), some .string => match P.underlying e with
  | some (.int .u8) => 2
  | _ => 3
 | some .string, some (.slice e) => match P.underlying e with
  | some (.int .u8) => 1
  | _ => 3
 | _, _ => 0
noncomputable def convV (P : Program) (a b : TypeId) (x : V) : Option V := match convK P a b with
 | 0 => scal1 P (convert a b) x
 | 1 => s2b x
 | 2 => b2s x
 | _ => none
def lenM (x : V) : Option V := match x with
 | .mp l => some (.lit (.int .i64 l.length))
 | _ => none
def lenR (P : Program) (st : St) (tys : Array TypeId) (cs : List C) : Option V := match cs with
 | [.ref s p gs] => match (tys[0]?).bind P.underlying with
  | some (.slice _) => gateL gs ((rowsR st s p).map fun rows => .lit (.int .i64 rows.length))
  | some (.map _ _) => gateL gs ((st.ow s).bind fun x => (getV x p).bind lenM)
  | _ => none
 | cs => lenO P tys (cs.map st.asV)
def tupL : List Value → Option (List V)
 | [] => some []
 | v :: r => (ofVal v).bind fun x => (tupL r).map (x :: ·)
def lookR (v : Value) : Option V := match v with
 | .tuple cs => (tupL cs.toList).map .tup
 | v => ofVal v
noncomputable def lookV (P : Program) (t : TypeId) (ok : Bool) (x k : V) : Option V := match x with
 | .mp l => (k.val?).bind fun kv => (mpGet P t l kv ok).bind lookR
 | _ => none
noncomputable def lookC (P : Program) (st : St) (t : TypeId) (ok : Bool) (c : C) (k : V) : Option V := match c with
 | .ref s [] gs => gateL gs ((st.ow s).bind fun x => lookV P t ok x k)
 | .ref s (q :: p) gs => gateL gs ((st.ow s).bind fun x => (getV x (q :: p)).bind fun y => lookV P t ok y k)
 | _ => none
noncomputable def putV (P : Program) (t : TypeId) (x k v : V) : Option V := match x with
 | .mp l => (k.val?).bind fun kv => (v.val?).bind fun vv => (mpPut P t l kv vv).map .mp
 | _ => none
def extractV (x : V) (i : Nat) : Option V := match x with
 | .tup l => l[i]?
 | _ => none
def slL3 : V → List (List V)
 | .sl l => l
 | _ => []
def elemP (P : Program) (t : TypeId) : Option (TypeId × Nat) := match P.underlying t with
 | some (.slice e) => (P.info? e).bind fun i => i.zero.bind fun z => if 0 < i.size ∧ z.cells.size = i.size ∧ i.bytes ≤ 32768 then some (e, i.size) else none
 | _ => none
def rowB (P : Program) (env : FuncId → List V → Option V) (s : Nat) (t : TypeId) (f : Operand) (xs : List V) : Option (C × Option (List V)) := match f with
 | .func f => (elemP P t).bind fun p => (if f < 1000000 ∧ p.1 ≠ 987654321 then env (f + 1000000 * (p.1 + 2)) xs else none).map fun y => (.row s, some [.lit (.int .i64 p.1), y])
 | _ => none
noncomputable def stepB (P : Program) (env : FuncId → List V → Option V) (s : Nat) (st : St) (o : Oper) : Option (C × Option (List V)) :=
 match o.op with
 | .move x | .assign x => some (st.ev x, none)
 | .pick c x y => vres (pickV (st.rd c) (st.rd x) (st.rd y))
 | .load t x => vres (loadC P st t (st.ev x))
 | .fieldAddr t x f => (placeP P t f).bind fun p => if p.2 = 0 then none else (fieldC p.1 (st.ev x)).map fun c => (c, none)
 | .field t x f => vres (fieldV P t (st.rd x) f)
 | .nilCheck x => vres (ptrF 0 (st.rd x))
 | .indexAddr t x i => vres (idxV P t (st.rd x) (st.rd i))
 | .index t x i => vres (scal2 P (Instr.index t) (st.rd x) (st.rd i))
 | .binOp op t x y _ => vres (bin2 P op t x y (st.rd x) (st.rd y))
 | .unOp op _ x => vres (scal1 P (Op.unary op) (st.rd x))
 | .convert a b x => match st.ev x with
  | .ref s p gs => match convK P a b with
   | 2 => vres (gateL gs ((rowsR st s p).bind fun rows => b2s (.sl rows)))
   | _ => none
  | _ => vres (convV P a b (st.rd x))
 | .makeInterface t x => vres (scal1 P (Instr.makeInterface t) (st.rd x))
 | .lookup t m k ok => vres (lookC P st t ok (st.ev m) (st.rd k))
 | .slice t x lo hi none => vres (sliceV P t (st.rd x) (lo.map st.rd) (hi.map st.rd))
 | .extract x i => vres (extractV (st.rd x) i)
 | .build t parts => vres (buildO P t (parts.toList.map fun p => (p.1, st.rd p.2)))
 | .buildSlice t n parts => vres (buildSliceO P t n (parts.toList.map fun p => (p.1, st.rd p.2)))
 | .makeFunc (.func f) first caps => if first.size = 0 then vres (some (.fn f (caps.toList.map st.rd))) else none
 | .alloc t => (zeroP P t).map fun z => (.box s ⟨[], 0⟩, some z)
 | .box _ x => ((st.rd x).cellsO).map fun z => (.box s ⟨[], 0⟩, some z)
 | .call c => match c.callee with
  | .builtin .len => vres (lenR P st c.argTypes (c.args.toList.map st.ev))
  | .builtin .min => match c.args.toList with
   | [x, y] => vres (scal2 P (fun u v => Builtin.min_ c.argTypes o.type #[u, v]) (st.rd x) (st.rd y))
   | _ => none
  | .builtin .max => match c.args.toList with
   | [x, y] => vres (scal2 P (fun u v => Builtin.max_ c.argTypes o.type #[u, v]) (st.rd x) (st.rd y))
   | _ => none
  | .value f => match st.isRf (o.dst.map (· + 1000000)) with
   | true => rowB P env s o.type f (c.args.toList.map st.rd)
   | false => vres (callV env (st.rd f) (c.args.toList.map st.rd))
  | _ => none
 | _ => none
noncomputable def stepH (P : Program) (env : FuncId → List V → Option V) (s : Nat) (st : St) (o : Oper) : Option (C × Option (List V)) := match addrOp P st o with
 | some r => r.2.bind fun _ => some (r.1, none)
 | none => stepB P env s st o
structure Ghost where
 M : Mem
 loc : Nat → Nat
 val : Nat → Value
 hp : Hp
 ov : Nat → Value
 fp : Nat → Nat → Prop
 ow : Nat → Option V
def RelC (g : Ghost) (v : Value) : C → Prop
 | .v x => Rel g.M v x
 | .nil => v = .slice none 0 0
 | .box s off => (∀ p ∈ off.gs, p.1 = .lit (.bool p.2)) → v = .pointer (some ⟨g.loc s, off.o, none⟩)
 | .row s => v = g.val s
 | .adr s p q gs => (∀ r ∈ gs, r.1 = .lit (.bool r.2)) → (p = [] ∨ ∃ x y, g.ow s = some x ∧ getV x p = some y) ∧ ∃ u b, walkV g.hp (g.ov s) p = some u ∧ blockAt u = some b ∧ v = .pointer (some ⟨b, q.abs, none⟩)
 | .ref s p gs => (∀ r ∈ gs, r.1 = .lit (.bool r.2)) → (p = [] ∨ ∃ x y, g.ow s = some x ∧ getV x p = some y) ∧ walkV g.hp (g.ov s) p = some v
structure BelowF (F0 : Nat → Prop) (B : Nat) (w w' : World) : Prop where
 os : w'.os = w.os
 tape : w'.tape = w.tape
 output : w'.output = w.output
 size : w.heap.size ≤ w'.heap.size
 block : ∀ k, k < B → ¬ F0 k → w'.heap[k]? = w.heap[k]?
theorem BelowF.refl (F0 : Nat → Prop) (B : Nat) (w : World) : BelowF F0 B w w := ⟨rfl, rfl, rfl, Nat.le_refl _, fun _ _ _ => rfl⟩
theorem BelowF.trans {F0 : Nat → Prop} {B : Nat} {a b c : World} (h : BelowF F0 B a b) (k : BelowF F0 B b c) : BelowF F0 B a c :=
 ⟨k.os.trans h.os, k.tape.trans h.tape, k.output.trans h.output, Nat.le_trans h.size k.size, fun i hi hf => (k.block i hi hf).trans (h.block i hi hf)⟩
theorem _root_.Go.RowKit.Below.toF {F0 : Nat → Prop} {B : Nat} {w w' : World} (h : Below B w w') : BelowF F0 B w w' := ⟨h.os, h.tape, h.output, h.size, fun k hk _ => h.block k hk⟩
theorem BelowF.plain {B : Nat} {w w' : World} (h : BelowF (fun _ => False) B w w') : Below B w w' := ⟨h.os, h.tape, h.output, h.size, fun k hk => h.block k hk (fun h => h)⟩
def RelCells (M : Mem) (cs : Array Value) (l : List V) : Prop := cs.size = l.length ∧ ∀ j x, l[j]? = some x → (cs.getD j undef).oneCell' = true ∧ Rel M (cs.getD j undef) x
def offOf : Value → Nat
 | .slice (some a) _ _ => a.off
 | _ => 0
def capOf : Value → Nat
 | .slice _ _ c => c
 | _ => 0
def OwnsO (w : World) (base e k : Nat) (v : Value) (xs : List (List Value)) : Prop :=
 (∀ cs ∈ xs, cs.length = k) ∧ ((v = .slice none 0 0 ∧ xs = []) ∨ ∃ q off cap cur, v = .slice (some ⟨q, off, none⟩) xs.length cap ∧ base ≤ q ∧ w.heap[q]? = some (.cells cur e (0, 0)) ∧ xs.length ≤ cap ∧ cap ≤ maxLen ∧ off + cap * k ≤ cur.size ∧ ∀ o, o < xs.length * k → cur[off + o]? = xs.flatten[o]?)
theorem _root_.Go.Proofs.YtgkohnjpnnofhaaGreat.Owns.toO {w : World} {base e k : Nat} {v : Value} {xs : List (List Value)} (h : Owns w base e k v xs) : OwnsO w base e k v xs := by
 obtain ⟨⟨hl, hd⟩, hk⟩ := h
 refine ⟨hk, ?_⟩
 rcases hd with ⟨rfl, h0⟩ | ⟨q, cap, cur, rfl, hg, hh, hnc, hm, hs, ht⟩
 ·exact .inl ⟨rfl, List.eq_nil_of_length_eq_zero h0⟩
 ·refine .inr ⟨q, 0, cap, cur, rfl, hg, hh, hnc, hm, by omega, fun o ho => ?_⟩
  have h1 : (cur.toList.take (xs.length * k))[o]? = xs.flatten[o]? := by rw [ht]
  rw [List.getElem?_take, if_pos ho] at h1
  rw [Nat.zero_add]
  simpa using h1
theorem OwnsO.nil_ (w : World) (base e k : Nat) : OwnsO w base e k (.slice none 0 0) [] := ⟨by simp, .inl ⟨rfl, rfl⟩⟩
theorem OwnsO.mono {w : World} {base base' e k : Nat} {v : Value} {xs : List (List Value)} (h : OwnsO w base e k v xs) (hb : base' ≤ base) : OwnsO w base' e k v xs := by
 refine ⟨h.1, ?_⟩
 rcases h.2 with h0 | ⟨q, off, cap, cur, h1, h2, r⟩
 ·exact .inl h0
 ·exact .inr ⟨q, off, cap, cur, h1, Nat.le_trans hb h2, r⟩
theorem owns_block {w w' : World} {base e k : Nat} {v : Value} {xs : List (List Value)} (h : OwnsO w base e k v xs) (hb : ∀ q, v.ownBlock = some q → w'.heap[q]? = w.heap[q]?) : OwnsO w' base e k v xs := by
 refine ⟨h.1, ?_⟩
 rcases h.2 with h0 | ⟨q, off, cap, cur, h1, h2, h3, r⟩
 ·exact .inl h0
 ·exact .inr ⟨q, off, cap, cur, h1, h2, by rw [hb q (by rw [h1]; rfl)]; exact h3, r⟩
theorem OwnsO.below {w w' : World} {base e k : Nat} {v : Value} {xs : List (List Value)} (h : OwnsO w base e k v xs) (hb : Below w.heap.size w w') : OwnsO w' base e k v xs := by
 refine ⟨h.1, ?_⟩
 rcases h.2 with h0 | ⟨q, off, cap, cur, h1, h2, h3, r⟩
 ·exact .inl h0
 ·exact .inr ⟨q, off, cap, cur, h1, h2, by rw [hb.block q (Array.getElem?_eq_some_iff.1 h3).1]; exact h3, r⟩
def RowOk (P : Program) (base : Nat) (M : Mem) (w : World) (e : TypeId) (v : Value) (rows : List (List V)) : Prop :=
 Rel M v (.sl rows) ∧ ∃ k xs, sizeP P e = some k ∧ OwnsO w base e k v xs ∧ xs.length = rows.length ∧ (∀ r ∈ rows, r.length = k) ∧ ∀ q, v.ownBlock = some q → base ≤ q ∧ q < w.heap.size ∧ (rows.length < capOf v → ∀ o u, M q o = some u → o < offOf v + rows.length * k)
structure Par where
 F : Nat → Prop
 ov : Nat → Value
instance : Coe Par (Nat → Prop) := ⟨Par.F⟩
instance : CoeFun Par (fun _ => Nat → Prop) := ⟨Par.F⟩
structure Sim (P : Program) (Dw : World → Prop) (F0 : Par) (base : Nat) (M0 : Mem) (w0 : World) (N : Nat) (g : Ghost) (st : St) (a : Act) (w : World) : Prop where
 inv : ∀ w', BelowF F0.F base w0 w' → Dw w'
 below : BelowF F0.F base w0 w
 base_le : base ≤ w.heap.size
 defers : a.defers = []
 size : a.tmps.size = N
 mem : ∀ b o u, g.M b o = some u → w.cell? ⟨b, o, none⟩ = some u
 old : ∀ b o u, g.M b o = some u → b < base → ¬ F0.F b → M0 b o = some u
 keepM : ∀ b o u, M0 b o = some u → g.M b o = some u
 slot : ∀ t, RelC g (a.tmps.getD t undef) (st.φ t)
 box : ∀ s l, st.bx s = some l → base ≤ g.loc s ∧ (∀ o, g.M (g.loc s) o = none) ∧ ∃ cs ty, w.heap[g.loc s]? = some (.cells cs ty (0, 0)) ∧ RelCells g.M cs l
 boxes : ∀ s s' l l', st.bx s = some l → st.bx s' = some l' → g.loc s = g.loc s' → s = s'
 row : ∀ s e rows, st.rw s = some (e, rows) → RowOk P base g.M w e (g.val s) rows
 rows : ∀ s s' r r', st.rw s = some r → st.rw s' = some r' → s ≠ s' → ∀ q, (g.val s).ownBlock = some q → (g.val s').ownBlock ≠ some q
 boxrow : ∀ s s' l r, st.bx s = some l → st.rw s' = some r → (g.val s').ownBlock ≠ some (g.loc s)
 hp : ∀ q ob, g.hp q = some ob → (base ≤ q ∨ F0.F q) ∧ w.heap[q]? = some ob ∧ (∀ o, g.M q o = none) ∧ (∀ s l, st.bx s = some l → g.loc s ≠ q) ∧ (∀ s r, st.rw s = some r → (g.val s).ownBlock ≠ some q)
 own : ∀ s x, st.ow s = some x → RelT g.hp g.M (g.fp s) (g.ov s) x
 fph : ∀ s x q, st.ow s = some x → g.fp s q → ∃ ob, g.hp q = some ob
 owd : ∀ s s' x x', st.ow s = some x → st.ow s' = some x' → s ≠ s' → ∀ q, g.fp s q → ¬ g.fp s' q
 gow : g.ow = st.ow
 ovp : ∀ s, s < 8 → g.ov s = F0.ov s
structure Grow (M : Mem) (w : World) (M' : Mem) (w' : World) : Prop where
 below : Below w.heap.size w w'
 mono : ∀ b o u, M b o = some u → M' b o = some u
 mem : ∀ b o u, M' b o = some u → w'.cell? ⟨b, o, none⟩ = some u
 fresh : ∀ b o u, M' b o = some u → b < w.heap.size → M b o = some u
theorem rel_nil (M : Mem) : Rel M (.slice none 0 0) (.sl []) := .sl none 0 0 0 0 0 [] (fun _ _ => undef) rfl (Nat.le_refl _) (by simp) (by simp) (by simp) (by simp) (by simp)
theorem rel_cellV (M : Mem) (v : Value) (h : v.oneCell' = true) : Rel M v (cellV v) := by
 unfold cellV
 split
 ·exact rel_nil M
 ·exact .lit v h
theorem rel_ofVal {M : Mem} {v : Value} {x : V} (h : ofVal v = some x) : Rel M v x := by
 unfold ofVal at h
 split at h
 ·rename_i cs
  split at h
  ·rename_i h1
   simp only [oE_] at h
   subst h
   have hone : ∀ i, i < cs.size → (cs.getD i undef).oneCell' = true := fun i hi => by
    have := List.all_eq_true.1 h1 (cs.getD i undef) (by simp [Array.getD, hi])
    exact this
   refine .agg cs _ (by simp) (fun i hi => hone i (by simpa using hi)) fun i x hx => ?_
   rw [List.getElem?_map] at hx
   cases hc : cs.toList[i]? with
   | none => rw [hc] at hx; simp at hx
   | some c =>
    rw [hc] at hx
    simp only [Option.map_some, oE_] at hx
    subst hx
    have hi : i < cs.size := by have := (gS_ hc).1; simpa using this
    have e : cs.getD i undef = c := by
     have := (gS_ hc).2
     simp [Array.getD, hi] at this ⊢; exact this
    rw [e]
    exact rel_cellV M c (by rw [← e]; exact hone i hi)
  ·cases h
 ·cases h
 ·rename_i h1 h2
  simp only [oE_] at h
  subst h
  refine rel_cellV M v ?_
  cases v <;> simp_all [Value.oneCell']
theorem rel_constC (g : Ghost) (v : Value) : RelC g v (constC v) := by
 unfold constC
 split
 ·rfl
 ·rename_i cs
  split
  ·rename_i x hx
   exact rel_ofVal hx
  ·exact .any _
 ·exact .any _
 ·exact .lit v (by cases v <;> simp_all [Value.oneCell'])
theorem lits_rel {M : Mem} : ∀ {l : List V} {vs : List Value}, lits? l = some vs → vs.length = l.length ∧ ∀ (i : Nat) (x : V), l[i]? = some x → ∃ u, x = V.lit u ∧ vs[i]? = some u
 | [], vs, h => by simp [lits?] at h; subst h; simp
 | x :: l, vs, h => by
  cases x <;> try (simp [lits?] at h; done)
  rename_i u
  simp only [lits?, Option.map_eq_some_iff] at h
  obtain ⟨r, hr, rfl⟩ := h
  obtain ⟨h1, h2⟩ := lits_rel (M := M) hr
  refine ⟨by simp [h1], fun i y hy => ?_⟩
  cases i with
  | zero => simp at hy; subst hy; exact ⟨u, rfl, rfl⟩
  | succ i => simpa using h2 i y (by simpa using hy)
theorem rel_lit {M : Mem} {v u : Value} (h : Rel M v (.lit u)) : v = u ∧ u.oneCell' = true := by
 cases h with
 | lit v h => exact ⟨rfl, h⟩
theorem rel_val {M : Mem} {v u : Value} {x : V} (h : Rel M v x) (hx : x.val? = some u) : v = u := by
 cases h with
 | lit v h1 => simpa [V.val?] using hx
 | agg cs l hs h1 h =>
  simp only [V.val?, Option.map_eq_some_iff] at hx
  obtain ⟨vs, hvs, rfl⟩ := hx
  obtain ⟨h2, h3⟩ := lits_rel (M := M) hvs
  congr 1
  apply Array.ext
  ·simp [hs, h2]
  ·intro i hi hi'
   have hil : i < l.length := by rw [← hs]; exact hi
   obtain ⟨u, e1, e2⟩ := h3 i l[i] (gE_ hil)
   have := h i l[i] (gE_ hil)
   rw [e1] at this
   have h6 := (rel_lit this).1
   have h5 := (gS_ e2).2
   have h7 : cs.getD i undef = cs[i] := by simp [Array.getD, hi]
   rw [← h7, h6, ← h5]
   simp
 | _ => simp [V.val?] at hx
section
variable {P : Program} {Dw : World → Prop} {F0 : Par} {base : Nat} {M0 : Mem} {w0 w : World} {N : Nat} {g : Ghost} {st : St} {a : Act}
theorem Sim.asV (h : Sim P Dw F0 base M0 w0 N g st a w) {v : Value} {c : C} (hc : RelC g v c) : Rel g.M v (st.asV c) := by
 cases c with
 | v x => exact hc
 | nil => simp only [RelC] at hc; subst hc; exact rel_nil _
 | box s o => exact .any _
 | adr s p q gs => exact .any _
 | ref s p gs => exact .any _
 | row s =>
  simp only [RelC] at hc
  subst hc
  simp only [St.asV]
  cases hr : st.rw s with
  | none => exact .any _
  | some r => exact (h.row s r.1 r.2 hr).1
theorem Sim.ev (h : Sim P Dw F0 base M0 w0 N g st a w) (x : Operand) : RelC g (a.eval x) (st.ev x) := by
 cases x with
 | tmp t => exact h.slot t
 | const v => exact rel_constC g v
 | global n => exact .lit _ rfl
 | func f => exact .fn f #[] [] rfl (by simp)
theorem Sim.rd (h : Sim P Dw F0 base M0 w0 N g st a w) (x : Operand) : Rel g.M (a.eval x) (st.rd x) := h.asV (h.ev x)
theorem Grow.refl (hm : ∀ b o u, g.M b o = some u → w.cell? ⟨b, o, none⟩ = some u) : Grow g.M w g.M w := ⟨Below.refl _ _, fun _ _ _ h => h, hm, fun _ _ _ h _ => h⟩
theorem RelCells.mono {M M' : Mem} {cs : Array Value} {l : List V} (h : RelCells M cs l) (hM : ∀ b o u, M b o = some u → M' b o = some u) : RelCells M' cs l :=
 ⟨h.1, fun j x hx => ⟨(h.2 j x hx).1, (h.2 j x hx).2.mono hM⟩⟩
theorem Sim.grow {M' : Mem} {w' : World} (h : Sim P Dw F0 base M0 w0 N g st a w) (hg : Grow g.M w M' w') : Sim P Dw F0 base M0 w0 N { g with M := M' } st a w' where
 inv := h.inv
 below := h.below.trans (hg.below.mono h.base_le).toF
 base_le := Nat.le_trans h.base_le hg.below.size
 defers := h.defers
 size := h.size
 mem := hg.mem
 old := fun b o u hu hb hF => h.old b o u (hg.fresh b o u hu (Nat.lt_of_lt_of_le hb h.base_le)) hb hF
 keepM := fun b o u hu => hg.mono b o u (h.keepM b o u hu)
 slot := fun t => by
  have := h.slot t
  cases hc : st.φ t with
  | v x => rw [hc] at this; exact Rel.mono this hg.mono
  | nil => rw [hc] at this; exact this
  | box s o => rw [hc] at this; exact this
  | row s => rw [hc] at this; exact this
  | adr s p q gs => rw [hc] at this; exact this
  | ref s p gs => rw [hc] at this; exact this
 box := fun s l hs => by
  obtain ⟨h1, h2, cs, ty, h3, h4⟩ := h.box s l hs
  have hlt : g.loc s < w.heap.size := (Array.getElem?_eq_some_iff.1 h3).1
  refine ⟨h1, fun o => ?_, cs, ty, ?_, h4.mono hg.mono⟩
  ·cases hm : M' (g.loc s) o with
   | none => exact hm
   | some u => have := hg.fresh _ _ _ hm hlt; rw [h2] at this; cases this
  ·rw [hg.below.block _ hlt]; exact h3
 boxes := h.boxes
 row := fun s e rows hs => by
  obtain ⟨h1, k, xs, h2, h3, h4, h5, h6⟩ := h.row s e rows hs
  refine ⟨h1.mono hg.mono, k, xs, h2, h3.below hg.below, h4, h5, fun q hq => ?_⟩
  obtain ⟨h7, h8, h9⟩ := h6 q hq
  exact ⟨h7, Nat.lt_of_lt_of_le h8 hg.below.size, fun hc o u hu => h9 hc o u (hg.fresh q o u hu h8)⟩
 rows := h.rows
 boxrow := h.boxrow
 hp := fun q ob hq => by
  obtain ⟨h1, h2, h3, h4, h5⟩ := h.hp q ob hq
  have hlt : q < w.heap.size := (Array.getElem?_eq_some_iff.1 h2).1
  refine ⟨h1, by rw [hg.below.block _ hlt]; exact h2, fun o => ?_, h4, h5⟩
  cases hm : M' q o with
  | none => exact hm
  | some u => have := hg.fresh _ _ _ hm hlt; rw [h3] at this; cases this
 own := fun s x hs => (h.own s x hs).mono hg.mono
 fph := h.fph
 owd := h.owd
 gow := h.gow
 ovp := h.ovp
theorem Sim.put_ {c : C} {v : Value} {dst : Option Nat} (h : Sim P Dw F0 base M0 w0 N g st a w) (hd : ∀ d, dst = some d → d < N) (hc : RelC g v c) : Sim P Dw F0 base M0 w0 N g (st.put dst c) (a.put dst v) w := by
 cases dst with
 | none => exact h
 | some d =>
  have hd := hd d rfl
  refine { h with slot := fun t => ?_, size := by simp [Act.put, h.size], defers := h.defers, box := h.box, boxes := h.boxes, row := h.row, rows := h.rows, boxrow := h.boxrow }
  show RelC g ((a.tmps.setIfInBounds d v).getD t undef) (upd st.φ d c t)
  by_cases e : t = d
  ·subst e
   rw [upd_same]
   have : (a.tmps.setIfInBounds t v).getD t undef = v := by
    have hs : t < a.tmps.size := by rw [h.size]; exact hd
    simp [Array.getD, hs]
   rw [this]; exact hc
  ·rw [upd_ne _ _ e]
   have : (a.tmps.setIfInBounds d v).getD t undef = a.tmps.getD t undef := by
    simp [Array.getElem?_setIfInBounds_ne (Ne.symm e)]
   rw [this]; exact h.slot t
theorem Sim.newBox {l : List V} {s blk : Nat} {cs : Array Value} {ty : TypeId} (h : Sim P Dw F0 base M0 w0 N g st a w) (hblk : base ≤ blk) (hM : ∀ o, g.M blk o = none) (hw : w.heap[blk]? = some (.cells cs ty (0, 0))) (hl : RelCells g.M cs l)
  (hb : ∀ s' l', st.bx s' = some l' → g.loc s' ≠ blk) (hr : ∀ s' r', st.rw s' = some r' → (g.val s').ownBlock ≠ some blk) (hs : st.bx s = none) (hf : ∀ t o, st.φ t ≠ .box s o) (hhp : g.hp blk = none) :
  Sim P Dw F0 base M0 w0 N { g with loc := upd g.loc s blk } { st with bx := upd st.bx s (some l) } a w where
 inv := h.inv
 below := h.below
 base_le := h.base_le
 defers := h.defers
 size := h.size
 mem := h.mem
 old := h.old
 keepM := h.keepM
 slot := fun t => by
  have := h.slot t
  show RelC _ _ (st.φ t)
  cases hc : st.φ t with
  | v x => rw [hc] at this; exact this
  | nil => rw [hc] at this; exact this
  | box s' o =>
   rw [hc] at this
   have hne : s' ≠ s := fun e => hf t o (by rw [hc, e])
   simp only [RelC] at *
   rw [upd_ne _ _ hne]; exact this
  | row s' => rw [hc] at this; exact this
  | adr s p q gs => rw [hc] at this; exact this
  | ref s p gs => rw [hc] at this; exact this
 box := fun s' l' hs' => by
  by_cases e : s' = s
  ·subst e
   simp only [upd_same, oE_] at hs' ⊢
   subst hs'
   exact ⟨hblk, hM, cs, ty, hw, hl⟩
  ·simp only [upd_ne _ _ e] at hs' ⊢
   exact h.box s' l' hs'
 boxes := fun s1 s2 l1 l2 h1 h2 he => by
  by_cases e1 : s1 = s <;> by_cases e2 : s2 = s
  ·rw [e1, e2]
  ·subst e1
   simp only [upd_same, upd_ne _ _ e2] at h1 h2 he
   exact absurd he.symm (hb s2 l2 h2)
  ·subst e2
   simp only [upd_same, upd_ne _ _ e1] at h1 h2 he
   exact absurd he (hb s1 l1 h1)
  ·simp only [upd_ne _ _ e1, upd_ne _ _ e2] at h1 h2 he
   exact h.boxes s1 s2 l1 l2 h1 h2 he
 row := h.row
 rows := h.rows
 hp := fun q ob hq => by
  obtain ⟨h1, h2, h3, h4, h5⟩ := h.hp q ob hq
  refine ⟨h1, h2, h3, fun s' l' hs' => ?_, h5⟩
  by_cases e : s' = s
  ·subst e; simp only [upd_same]; intro e2; subst e2; rw [hhp] at hq; cases hq
  ·simp only [upd_ne _ _ e] at hs' ⊢; exact h4 s' l' hs'
 own := h.own
 fph := h.fph
 owd := h.owd
 gow := h.gow
 ovp := h.ovp
 boxrow := fun s1 s2 l r h1 h2 => by
  by_cases e1 : s1 = s
  ·subst e1
   simp only [upd_same] at h1 ⊢
   exact hr s2 r h2
  ·simp only [upd_ne _ _ e1] at h1 ⊢
   exact h.boxrow s1 s2 l r h1 h2
end
end Go.Proofs.YtgkohnjpnnofhaaGreat.Den
