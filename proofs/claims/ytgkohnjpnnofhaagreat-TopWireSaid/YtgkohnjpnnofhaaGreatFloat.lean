/- A region that draws its order, with operations that ask nothing of memory: these may be walked first, whenever they come; what is left is forced. -/
import Derived.Test.YtgkohnjpnnofhaaGreatQuiet
import Derived.OrdersHeld
namespace Go.Proofs.YtgkohnjpnnofhaaGreat
open Go.RowKit
section
variable {P : Program} {ops : Array Oper} {md : Region.Mode} {Q : Exit → Act → World → Prop}
def Still (P : Program) (o : Oper) (a : Act) (v : Value) : Prop := ∀ w, (execOp a.eval o).run P w = .ok (.value v) w
theorem put_defers (a : Act) (x : Option Tmp) (v : Value) (d : List Deferred) : { a.put x v with defers := d } = ({ a with defers := d } : Act).put x v := by cases x <;> rfl
theorem defers_put (a : Act) (x : Option Tmp) (v : Value) : (a.put x v).defers = a.defers := by cases x <;> rfl
theorem wpOp_put {j : Nat} {oi oj : Oper} (hj : ops[j]? = some oj) (hap : oi.apart ops oj = true) (hsi : ∀ cs b, oi.op ≠ .select cs b) (hsj : ∀ cs b, oj.op ≠ .select cs b) (hQ : ∀ e a w, Q e a w → e = .normal) {K : Act → World → Prop} {a : Act} {w : World} {v : Value}
  (hwi : Region.wanted oi (yielded ops a.tmps) = true) (hs : Still P oi a v) (h : wpOp P ops Q j K (a.put oi.dst v) w) : wpOp P ops Q j (fun a' w' => (Region.wanted oi (yielded ops a'.tmps) = true ∧ Still P oi a' v) ∧ K (a'.put oi.dst v) w') a w := by
 obtain ⟨h1, h2, h3⟩ := Oper.apart_spec hap
 have he := execOp_put oj hsj a oi.dst v h1
 have hc : ∀ (b : Act) u, (b.put oj.dst u).put oi.dst v = (b.put oi.dst v).put oj.dst u := fun b u => (Act.put_comm b v u h2).symm
 have hk : ∀ u, Region.wanted oi (yielded ops (a.put oj.dst u).tmps) = true ∧ Still P oi (a.put oj.dst u) v := fun u => ⟨by rw [wanted_put oi a oj.dst u h3]; exact hwi, fun w => by rw [execOp_put oi hsi a oj.dst u h3]; exact hs w⟩
 have hkd : ∀ u d, Region.wanted oi (yielded ops (({ a with defers := d } : Act).put oj.dst u).tmps) = true ∧ Still P oi (({ a with defers := d } : Act).put oj.dst u) v := fun u d => ⟨by rw [wanted_put oi _ oj.dst u h3]; exact hwi, fun w => by rw [execOp_put oi hsi _ oj.dst u h3]; exact hs w⟩
 unfold wpOp at *
 simp only [hj, wanted_put oj a oi.dst v h1] at *
 by_cases hw : Region.wanted oj (yielded ops a.tmps) = true
 ·simp only [hw, if_true] at *
  rcases h with h | h
  ·refine .inl ?_
   unfold Oper.wp at *
   rw [he] at h
   cases hr : (execOp a.eval oj).run P w with
   | halt x w' =>
    rw [hr] at h
    cases x <;> simp only [Oper.upon] at h ⊢
    exact absurd (hQ _ _ _ h) (by simp)
   | ok n w' =>
    rw [hr] at h
    cases n <;> simp only [Oper.upon] at h ⊢
    case value u => rw [hc]; exact ⟨hk u, h⟩
    case skip => rw [hc]; exact ⟨hk _, h⟩
    case enter f args =>
     refine h.mono fun e w'' hh => ?_
     cases e <;> simp only at hh ⊢
     case returned u => rw [hc]; exact ⟨hk u, hh⟩
     case panicked => exact absurd (hQ _ _ _ hh) (by simp)
     case outgrown => exact hh
    case defer d =>
     rw [hc]
     rw [put_defers, defers_put] at h
     exact ⟨hkd _ _, h⟩
    case row => exact h.mono fun u w'' hh => by rw [hc]; exact ⟨hk u, hh⟩
  ·refine .inr ?_
   unfold Oper.asks at *
   rw [he] at h
   exact h
 ·simp only [hw] at *
  rw [hc]
  exact ⟨hk _, h⟩
theorem wpAny_first {i : Nat} {oi : Oper} {v : Value} (hi : ops[i]? = some oi) (hsel : ∀ (j : Nat) (o : Oper) cs b, ops[j]? = some o → o.op ≠ .select cs b) (hQ : ∀ e a w, Q e a w → e = .normal) :
  ∀ (g : Nat) (listed : Array Bool) (a : Act) (w : World),
   (∀ j oj, ops[j]? = some oj → j ≠ i → listed.getD j true = false → (∀ e ∈ oj.after, Region.binds md e = true → e.on ≠ i) → oi.apart ops oj = true) →
   i ∈ Region.ready md ops listed → Region.wanted oi (yielded ops a.tmps) = true → Still P oi a v → wpAny P md ops Q g (listed.setIfInBounds i true) (a.put oi.dst v) w → wpAny P md ops Q (g + 1) listed a w := by
 have hself : ∀ {K : Act → World → Prop} {a : Act} {w : World}, Region.wanted oi (yielded ops a.tmps) = true → Still P oi a v → K (a.put oi.dst v) w → wpOp P ops Q i K a w := by
  intro K a w hw hs hk
  unfold wpOp
  simp only [hi, hw, if_true]
  refine .inl ?_
  unfold Oper.wp
  rw [hs w]
  exact hk
 intro g
 induction g with
 | zero =>
  intro listed a w hfree hr hw hs H
  refine ⟨fun h => (by rw [h] at hr; cases hr), fun j hj => ?_⟩
  by_cases hji : j = i
  ·subst hji; exact hself hw hs H
  ·have := ready_mono hj hji
   rw [H.1] at this
   cases this
 | succ g ih =>
  intro listed a w hfree hr hw hs H
  refine ⟨fun h => (by rw [h] at hr; cases hr), fun j hj => ?_⟩
  by_cases hji : j = i
  ·subst hji; exact hself hw hs H
  ·obtain ⟨hjun, oj, hoj, hall⟩ := mem_ready.1 hj
   have hun := (mem_ready.1 hr).1
   have hnot : ∀ e ∈ oj.after, Region.binds md e = true → e.on ≠ i := fun e he hb heq => by
    have h1 := hall e he hb
    rw [heq, getD_both hun] at h1
    cases h1
   have hap := hfree j oj hoj hji hjun hnot
   obtain ⟨h1, h2, h3⟩ := Oper.apart_spec hap
   refine wpOp_mono (fun a' w' h' => ih (listed.setIfInBounds j true) a' w' (fun k ok hk hki hk2 hk3 => ?_) (ready_mono hr (Ne.symm hji)) h'.1.1 h'.1.2 ?_)
    (wpOp_put hoj hap (fun cs b => hsel i oi cs b hi) (fun cs b => hsel j oj cs b hoj) hQ hw hs (H.2 j (ready_mono hj hji)))
   ·refine hfree k ok hk hki ?_ hk3
    by_cases hjk : j = k
    ·subst hjk; exact hjun
    ·rw [getD_set_ne true hjk] at hk2; exact hk2
   ·rw [Array.setIfInBounds_comm _ _ hji]
    exact h'.2
def seqL (md : Region.Mode) (ops : Array Oper) : List Nat → Array Bool → Bool
 | [], listed => decide (Region.ready md ops listed = [])
 | i :: r, listed => decide (Region.ready md ops listed = [i]) && seqL md ops r (listed.setIfInBounds i true)
def floatL (md : Region.Mode) (ops : Array Oper) (sq : List Nat) : List Nat → Array Bool → Bool
 | [], listed => seqL md ops sq listed
 | i :: r, listed => (Region.ready md ops listed).contains i && Region.free md ops listed i && floatL md ops sq r (listed.setIfInBounds i true)
def wpFloat (P : Program) (ops : Array Oper) (K : Act → World → Prop) : List Oper → Act → World → Prop
 | [], a, w => K a w
 | o :: r, a, w => Region.wanted o (yielded ops a.tmps) = true ∧ ∃ v, Still P o a v ∧ wpFloat P ops K r (a.put o.dst v) w
def wpSeqH (P : Program) (ops : Array Oper) (Q : Exit → Act → World → Prop) (S : World → Prop) : List Nat → Act → World → Prop
 | [], a, w => Q .normal a w
 | i :: r, a, w => wpOp P ops Q i (fun a' w' => S w' ∧ wpSeqH P ops Q S r a' w') a w
def wpFloatH (P : Program) (ops : Array Oper) (S : World → Prop) (K : Act → World → Prop) : List Nat → Act → World → Prop
 | [], a, w => K a w
 | i :: r, a, w => ∃ o v, ops[i]? = some o ∧ YieldsIf P ops S o v a ∧ wpFloatH P ops S K r (a.put o.dst v) w
theorem wpAnyH_of_seqL {S : World → Prop} : ∀ (sq : List Nat) (listed : Array Bool) (a : Act) (w : World), seqL md ops sq listed = true → wpSeqH P ops Q S sq a w → wpAnyH P md ops Q S sq.length listed a w
 | [], _, _, _, hB, h => ⟨by simpa [seqL] using hB, h⟩
 | i :: r, listed, a, w, hB, h => by
  simp only [seqL, Bool.and_eq_true, decide_eq_true_eq] at hB
  refine ⟨fun h1 => (by rw [hB.1] at h1; cases h1), fun k hk => ?_⟩
  rw [hB.1] at hk
  have hik : k = i := by simpa using hk
  subst hik
  exact wpOp_mono (fun a' w' h' => ⟨h'.1, wpAnyH_of_seqL r _ a' w' hB.2 h'.2⟩) h
theorem wpAnyH_of_floatL {S : World → Prop} (hsel : Region.noSelect ops = true) (hQ : ∀ e a w, Q e a w → e = .normal) (sq : List Nat) : ∀ (fl : List Nat) (listed : Array Bool) (a : Act) (w : World), floatL md ops sq fl listed = true → S w →
  wpFloatH P ops S (wpSeqH P ops Q S sq) fl a w → wpAnyH P md ops Q S (fl.length + sq.length) listed a w
 | [], listed, a, w, hB, _, h => by simpa using wpAnyH_of_seqL sq listed a w hB h
 | i :: r, listed, a, w, hB, hS, h => by
  simp only [floatL, Bool.and_eq_true] at hB
  obtain ⟨o, v, ho, hy, h⟩ := h
  have := wpAnyH_take (fuel := r.length + sq.length) ho hsel hB.1.2 hB.1.1 (fun c a w h => absurd (hQ _ _ _ h) (by simp)) hy hS (wpAnyH_of_floatL hsel hQ sq r _ _ w hB.2 hS h)
  rwa [show (i :: r).length + sq.length = r.length + sq.length + 1 by simp; omega]
theorem wp_region_floatH {id : Nat} {a : Act} {w : World} {l : List Oper} (S : World → Prop) (fl sq : List Nat) (hm : P.follows .mixedOrders = true) (hB : (Region.noSelect l.toArray && floatL .any l.toArray sq fl (Array.replicate l.toArray.size false) && decide (fl.length + sq.length = l.toArray.size)) = true)
  (h : ∀ (Q' : Exit → Act → World → Prop), (∀ a w, Q .normal a w → Q' .normal a w) → ∀ w', w'.heap = w.heap → Below w.heap.size w w' → S w' ∧ wpFloatH P l.toArray S (wpSeqH P l.toArray Q' S sq) fl a w') : (Code.region id l.toArray true).wp P Q a w := by
 simp only [Bool.and_eq_true, decide_eq_true_eq] at hB
 refine Code.wp_mono (Q := fun e a w => e = .normal ∧ Q .normal a w) (fun e a w h => by obtain ⟨rfl, h⟩ := h; exact h) (wp_region_held (S := S) hm ?_)
 obtain ⟨h1, h2⟩ := h (fun e a w => e = .normal ∧ Q .normal a w) (fun _ _ h => ⟨rfl, h⟩) { w with drawn := w.drawn + 1 } rfl ⟨rfl, rfl, rfl, Nat.le_refl _, fun _ _ => rfl⟩
 have := wpAnyH_of_floatL (Q := fun e a w => e = .normal ∧ Q .normal a w) hB.1.1 (fun e a w h => h.1) sq fl _ a _ hB.1.2 h1 h2
 rwa [hB.2] at this
end
end Go.Proofs.YtgkohnjpnnofhaaGreat
