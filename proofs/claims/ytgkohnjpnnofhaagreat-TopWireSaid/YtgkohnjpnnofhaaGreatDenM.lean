/- A reader of Go code in plain values: maps, as the model keeps them. -/
import Derived.Test.YtgkohnjpnnofhaaGreatDen1
import Derived.MapKept
import Derived.Carry
namespace Go.Proofs.YtgkohnjpnnofhaaGreat.Den
set_option linter.unusedSimpArgs false
set_option linter.unusedVariables false
open Go.RowKit
def pairs (es : Array MapEntry) : List (Value × Value) := es.toList.map fun e => (e.key, e.val)
def mkEs (l : List (Value × Value)) : List MapEntry := l.map fun p => ⟨p.1, p.2, 0⟩
theorem pairs_mk (l : List (Value × Value)) : (mkEs l).map (fun e => (e.key, e.val)) = l := by
 unfold mkEs
 rw [List.map_map]
 exact List.map_id' l
theorem findNow_congr (d : TypeDesc) (k : Value) : ∀ (a b : List MapEntry) (i : Nat), a.map (fun e => (e.key, e.val)) = b.map (fun e => (e.key, e.val)) → Instr.findNow d k a i = Instr.findNow d k b i
 | [], [], _, _ => rfl
 | [], _ :: _, _, h => by simp at h
 | _ :: _, [], _, h => by simp at h
 | x :: a, y :: b, i, h => by
  simp only [List.map_cons, List.cons.injEq, Prod.mk.injEq] at h
  obtain ⟨⟨h1, h2⟩, h3⟩ := h
  simp only [Instr.findNow, h1, h2, findNow_congr d k a b (i + 1) h3]
theorem findAsking_congr (t : TypeId) (k : Value) : ∀ (a b : List MapEntry) (i : Nat), a.map (fun e => (e.key, e.val)) = b.map (fun e => (e.key, e.val)) → Instr.findAsking t k a i = Instr.findAsking t k b i
 | [], [], _, _ => rfl
 | [], _ :: _, _, h => by simp at h
 | _ :: _, [], _, h => by simp at h
 | x :: a, y :: b, i, h => by
  simp only [List.map_cons, List.cons.injEq, Prod.mk.injEq] at h
  obtain ⟨⟨h1, h2⟩, h3⟩ := h
  simp only [Instr.findAsking, h1, h2, findAsking_congr t k a b (i + 1) h3]
theorem findKey_congr (t : TypeId) (k : Value) {a b : List MapEntry} (h : a.map (fun e => (e.key, e.val)) = b.map (fun e => (e.key, e.val))) : Instr.findKey t k a = Instr.findKey t k b := by
 unfold Instr.findKey
 simp only [fun d => findNow_congr d k a b 0 h, findAsking_congr t k a b 0 h]
def lookS (t : TypeId) (l : List (Value × Value)) (key : Value) (ok : Bool) : Sem Value := do
 let .map kt elem ← underlying t | stuck "Lookup: map type expected"
 Instr.checkKey l.isEmpty 10000 kt key
 let (v, ok2) ← match ← Instr.findKey kt key (mkEs l) with
  | some (_, v) => pure (v, true)
  | none => pure (← zeroValue elem, false)
 pure (if ok then .tuple #[v, .bool ok2] else v)
noncomputable def mpFind (P : Program) (t : TypeId) (l : List (Value × Value)) (key : Value) : Option (Option (Nat × Value)) := match P.underlying t with
 | some (.map kt _) => (pure? P (Instr.checkKey false 10000 kt key)).bind fun _ => pure? P (Instr.findKey kt key (mkEs l))
 | _ => none
noncomputable def mpPut (P : Program) (t : TypeId) (l : List (Value × Value)) (key val : Value) : Option (List (Value × Value)) := (mpFind P t l key).bind fun r => match r with
 | some (i, _) => if Instr.sameBits 10000 ((l[i]?.map (·.1)).getD key) key = true then some (l.set i (key, val)) else none
 | none => some (l ++ [(key, val)])
noncomputable def mpGet (P : Program) (t : TypeId) (l : List (Value × Value)) (key : Value) (ok : Bool) : Option Value := pure? P (lookS t l key ok)
theorem isEmpty_pairs {es : Array MapEntry} {l : List (Value × Value)} (h : pairs es = l) : es.isEmpty = l.isEmpty := by
 subst h
 unfold pairs
 rw [Bool.eq_iff_iff]
 simp
theorem run_look {P : Program} {w : World} {t : TypeId} {b : Nat} {es : Array MapEntry} {clock : Nat} (hb : w.heap[b]? = some (.map es clock)) {l : List (Value × Value)} (hl : pairs es = l) (key : Value) (ok : Bool) :
  (Instr.lookup t (.map (some b)) key ok).run P w = (lookS t l key ok).run P w := by
 have e1 : ∀ kt, Instr.findKey kt key es.toList = Instr.findKey kt key (mkEs l) := fun kt => findKey_congr kt key (by rw [pairs_mk]; exact hl)
 have hg : (getObj b).run P w = .ok (.map es clock) w := MapKept.run_getObj_map hb
 unfold Instr.lookup lookS
 simp only [Sem.run_bind, bind_assoc]
 cases hu : P.underlying t with
 | none =>
  have h0 : ∀ w, (underlying t).run P w = (stuck "no such type" : Sem TypeDesc).run P w := fun w => by simp [underlying, hu]
  rw [h0]
  rfl
 | some d =>
  rw [run_underlying hu]
  simp only [Result.andThen_ok]
  cases d <;> try rfl
  simp only [Sem.run_bind, hg, Result.andThen_ok, Sem.run_pure, e1, isEmpty_pairs hl]
  rfl
theorem run_put {P : Program} {w : World} {t : TypeId} {b : Nat} {es : Array MapEntry} {clock : Nat} (hb : w.heap[b]? = some (.map es clock)) {l l' : List (Value × Value)} (hl : pairs es = l) {key val : Value} (hp : mpPut P t l key val = some l') :
  ∃ es' clock', (Instr.mapUpdate t (.map (some b)) key val).run P w = .ok () { w with heap := w.heap.setIfInBounds b (.map es' clock') } ∧ pairs es' = l' := by
 have e1 : ∀ kt, Instr.findKey kt key es.toList = Instr.findKey kt key (mkEs l) := fun kt => findKey_congr kt key (by rw [pairs_mk]; exact hl)
 have hg : (getObj b).run P w = .ok (.map es clock) w := MapKept.run_getObj_map hb
 have hset : ∀ o, (setObj b o).run P w = .ok () { w with heap := w.heap.setIfInBounds b o } := fun o => MapKept.run_setObj_map o hb
 unfold mpPut at hp
 obtain ⟨r, hr, hp⟩ := oB_ hp
 unfold mpFind at hr
 split at hr
 ·rename_i kt el hu
  obtain ⟨u, hc, hf⟩ := oB_ hr
  have hc := pure?_run hc w
  have hf := pure?_run hf w
  unfold Instr.mapUpdate
  simp only [Sem.run_bind, run_underlying hu, Result.andThen_ok, hg, e1, hc, hf]
  cases r with
  | none =>
   simp only [oE_] at hp
   refine ⟨es.push { key, val := val, born := clock }, clock + 1, hset _, ?_⟩
   simp only [pairs, Array.toList_push, List.map_append, List.map_cons, List.map_nil]
   rw [← hp, ← hl]; rfl
  | some p =>
   obtain ⟨i, u⟩ := p
   simp only at hp
   split at hp
   ·rename_i hsb
    simp only [oE_] at hp
    have hkey : (es[i]?.map (·.key)).getD key = (l[i]?.map (·.1)).getD key := by
     rw [← hl]; unfold pairs
     rw [List.getElem?_map, Array.getElem?_toList]
     cases es[i]? <;> rfl
    refine ⟨es.modify i fun e => { e with key, val := val }, clock, ?_, ?_⟩
    ·simp only [Instr.keyThatStays, hkey, hsb, if_true, Sem.run_pure, Result.andThen_ok, Sem.run_bind]
     exact hset _
    ·rw [← hp, ← hl]
     unfold pairs
     rw [Array.toList_modify]
     apply List.ext_getElem?
     intro j
     simp only [List.getElem?_map, List.getElem?_modify, List.getElem?_set, List.length_map]
     by_cases e : i = j
     ·subst e
      by_cases h : i < es.toList.length
      ·have h' : i < es.size := by simpa using h
       rw [gE_ h]; simp [h']
      ·rw [List.getElem?_eq_none (by omega)]; simp at h; simp [h]
     ·simp [e]
   ·cases hp
 ·cases hr
end Go.Proofs.YtgkohnjpnnofhaaGreat.Den
