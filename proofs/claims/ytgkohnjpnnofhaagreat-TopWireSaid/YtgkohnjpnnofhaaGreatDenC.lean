/- A reader of Go code in plain values: what is owned is appended to; calls that take and hand back what is owned. -/
import Derived.Test.YtgkohnjpnnofhaaGreatDenO
import Derived.Deep.Upon
namespace Go.Proofs.YtgkohnjpnnofhaaGreat.Den
set_option linter.unusedSimpArgs false
set_option linter.unusedVariables false
set_option linter.unnecessarySimpa false
open Go.RowKit
def killS (ss : List Nat) : C → C
 | .adr s (p :: ps) q gs => if ss.contains s = true then .v .any else .adr s (p :: ps) q gs
 | .ref s (p :: ps) gs => if ss.contains s = true then .v .any else .ref s (p :: ps) gs
 | c => c
section
variable {P : Program} {Dw : World → Prop} {F0 : Par} {base : Nat} {M0 : Mem} {w0 w : World} {N : Nat} {g : Ghost} {st : St} {a : Act} {o : Oper} {s : Nat}
theorem killS_site {ss : List Nat} {s2 : Nat} {c : C} (h : c.site ≠ some s2) : (killS ss c).site ≠ some s2 := by
 unfold killS
 split
 ·split
  ·simp [C.site]
  ·exact h
 ·split
  ·simp [C.site]
  ·exact h
 ·exact h
theorem killS_keep (ss : List Nat) (c : C) : KeepC c (killS ss c) := by
 unfold killS
 split
 ·split
  ·exact .inr ⟨rfl, rfl⟩
  ·exact .inl rfl
 ·split
  ·exact .inr ⟨rfl, rfl⟩
  ·exact .inl rfl
 ·exact .inl rfl
def KeepG (good : Nat → Prop) (c c' : C) : Prop := c' = .v .any ∨ (c' = c ∧ (c.nonroot = true → ∀ s', c.site = some s' → good s'))
theorem KeepG.refl (c : C) : KeepG (fun _ => True) c c := .inr ⟨rfl, fun _ _ _ => trivial⟩
theorem killS_g (ss : List Nat) (c : C) : KeepG (fun s' => ss.contains s' = false) c (killS ss c) := by
 unfold killS
 split
 ·split
  ·exact .inl rfl
  ·rename_i h
   exact .inr ⟨rfl, fun _ s2 h2 => by simp only [C.site, oE_] at h2; subst h2; simpa using h⟩
 ·split
  ·exact .inl rfl
  ·rename_i h
   exact .inr ⟨rfl, fun _ s2 h2 => by simp only [C.site, oE_] at h2; subst h2; simpa using h⟩
 ·rename_i h1 h2
  refine .inr ⟨rfl, fun hn => ?_⟩
  unfold C.nonroot at hn
  split at hn
  ·exact (h1 _ _ _ _ _ rfl).elim
  ·exact (h2 _ _ _ _ rfl).elim
  ·cases hn
theorem relC_g {g g' : Ghost} {v : Value} {c c' : C} {good : Nat → Prop} (h : RelC g v c) (hk : KeepG good c c') (hM : ∀ b o u, g.M b o = some u → g'.M b o = some u) (hloc : g'.loc = g.loc) (hval : g'.val = g.val) (hov : ∀ s', c.site = some s' → g'.ov s' = g.ov s')
  (ho : ∀ s' p x y, good s' → c.site = some s' → p ≠ [] → g.ow s' = some x → getV x p = some y → g'.ow s' = some x ∧ walkV g'.hp (g.ov s') p = walkV g.hp (g.ov s') p) : RelC g' v c' := by
 rcases hk with rfl | ⟨rfl, hk⟩
 ·exact .any _
 cases c' with
 | v x => exact Rel.mono h hM
 | nil => exact h
 | box s' off => simp only [RelC] at h ⊢; rw [hloc]; exact h
 | row s' => simp only [RelC] at h ⊢; rw [hval]; exact h
 | adr s' p q gs =>
  simp only [RelC] at h ⊢
  rw [hov s' rfl]
  intro hg
  obtain ⟨h1, u, b, h2, h3, h4⟩ := h hg
  cases p with
  | nil => exact ⟨.inl (by first | exact rfl | exact trivial), u, b, h2, h3, h4⟩
  | cons p ps =>
   obtain ⟨x, y, hx, hy⟩ := h1.resolve_left (by simp)
   obtain ⟨k1, k2⟩ := ho s' (p :: ps) x y (hk rfl s' rfl) rfl (by simp) hx hy
   exact ⟨.inr ⟨x, y, k1, hy⟩, u, b, by rw [k2]; exact h2, h3, h4⟩
 | ref s' p gs =>
  simp only [RelC] at h ⊢
  rw [hov s' rfl]
  intro hg
  obtain ⟨h1, h2⟩ := h hg
  cases p with
  | nil => exact ⟨.inl (by first | exact rfl | exact trivial), h2⟩
  | cons p ps =>
   obtain ⟨x, y, hx, hy⟩ := h1.resolve_left (by simp)
   obtain ⟨k1, k2⟩ := ho s' (p :: ps) x y (hk rfl s' rfl) rfl (by simp) hx hy
   exact ⟨.inr ⟨x, y, k1, hy⟩, by rw [k2]; exact h2⟩
theorem Sim.step2 (hS : Sim P Dw F0 base M0 w0 N g st a w) {w' : World} {M' : Mem} {hpN : Hp} {A : Nat → Prop} {st' : St} {fp' : Nat → Nat → Prop} {ov' : Nat → Value}
  (hB : BelowF A w.heap.size w w') (hmono : ∀ b o u, g.M b o = some u → M' b o = some u) (hmem : ∀ b o u, M' b o = some u → w'.cell? ⟨b, o, none⟩ = some u) (hfresh : ∀ b o u, M' b o = some u → b < w.heap.size → ¬ A b → g.M b o = some u)
  (hA : ∀ q, A q → ∃ ob, g.hp q = some ob)
  (hhp : ∀ q ob, hpN q = some ob → (¬ A q ∧ q < w.heap.size ∧ g.hp q = some ob) ∨ ((A q ∨ w.heap.size ≤ q) ∧ w'.heap[q]? = some ob ∧ ∀ o, M' q o = none))
  (hbx : st'.bx = st.bx) (hrw : st'.rw = st.rw) (hov : ∀ s, s < 8 → ov' s = g.ov s)
  (hφ : ∀ t, RelC ⟨M', g.loc, g.val, hpN, ov', fp', st'.ow⟩ (a.tmps.getD t undef) (st'.φ t))
  (hown : ∀ s x, st'.ow s = some x → RelT hpN M' (fp' s) (ov' s) x) (hfph : ∀ s x q, st'.ow s = some x → fp' s q → ∃ ob, hpN q = some ob) (howd : ∀ s s' x x', st'.ow s = some x → st'.ow s' = some x' → s ≠ s' → ∀ q, fp' s q → ¬ fp' s' q) :
  Sim P Dw F0 base M0 w0 N ⟨M', g.loc, g.val, hpN, ov', fp', st'.ow⟩ st' a w' := by
 have hAo : ∀ q, A q → base ≤ q ∨ F0.F q := fun q hq => by obtain ⟨ob, h⟩ := hA q hq; exact (hS.hp q ob h).1
 have hblk : ∀ q, q < w.heap.size → ¬ A q → w'.heap[q]? = w.heap[q]? := fun q h1 h2 => hB.block q h1 h2
 refine { inv := hS.inv, below := ?_, base_le := Nat.le_trans hS.base_le hB.size, defers := hS.defers, size := hS.size, mem := hmem, old := fun b o u hu hb hF => ?_, keepM := fun b o u hu => hmono b o u (hS.keepM b o u hu), slot := hφ, box := fun s l hs => ?_, boxes := ?_, row := fun s e rows hs => ?_, rows := ?_, boxrow := ?_, hp := fun q ob hq => ?_, own := hown, fph := hfph, owd := howd, gow := rfl, ovp := fun s hs => (hov s hs).trans (hS.ovp s hs) }
 ·refine hS.below.trans ⟨hB.os, hB.tape, hB.output, hB.size, fun k hk hf => hblk k (Nat.lt_of_lt_of_le hk hS.base_le) fun h => ?_⟩
  rcases hAo k h with h | h
  ·omega
  ·exact hf h
 ·refine hS.old b o u (hfresh b o u hu (Nat.lt_of_lt_of_le hb hS.base_le) fun h => ?_) hb hF
  rcases hAo b h with h | h
  ·omega
  ·exact hF h
 ·rw [hbx] at hs
  obtain ⟨q1, q2, cs, ty, q3, q4⟩ := hS.box s l hs
  have hlt := (Array.getElem?_eq_some_iff.1 q3).1
  have hn : ¬ A (g.loc s) := fun h => by obtain ⟨ob, h⟩ := hA _ h; exact (hS.hp _ ob h).2.2.2.1 s l hs rfl
  refine ⟨q1, fun o => ?_, cs, ty, (hblk _ hlt hn).trans q3, q4.mono hmono⟩
  show M' (g.loc s) o = none
  cases hm : M' (g.loc s) o with
  | none => rfl
  | some u => have := hfresh _ _ _ hm hlt hn; rw [q2] at this; cases this
 ·rw [hbx]; exact hS.boxes
 ·rw [hrw] at hs
  obtain ⟨r1, k2, xs, r2, r3, r4, r5, r6⟩ := hS.row s e rows hs
  have hnb : ∀ q, (g.val s).ownBlock = some q → ¬ A q := fun q hq h => by obtain ⟨ob, h⟩ := hA _ h; exact (hS.hp _ ob h).2.2.2.2 s _ hs hq
  refine ⟨r1.mono hmono, k2, xs, r2, owns_block r3 (fun q hq => hblk q (r6 q hq).2.1 (hnb q hq)), r4, r5, fun q hq => ?_⟩
  obtain ⟨t1, t2, t3⟩ := r6 q hq
  exact ⟨t1, Nat.lt_of_lt_of_le t2 hB.size, fun hc o u hu => t3 hc o u (hfresh q o u hu t2 (hnb q hq))⟩
 ·rw [hrw]; exact hS.rows
 ·rw [hbx, hrw]; exact hS.boxrow
 ·rcases hhp q ob hq with ⟨n1, n2, n3⟩ | ⟨n1, n2, n3⟩
  ·obtain ⟨p1, p2, p3, p4, p5⟩ := hS.hp q ob n3
   refine ⟨p1, (hblk q n2 n1).trans p2, fun o => ?_, by rw [hbx]; exact p4, by rw [hrw]; exact p5⟩
   show M' q o = none
   cases hm : M' q o with
   | none => rfl
   | some u => have := hfresh _ _ _ hm n2 n1; rw [p3] at this; cases this
  ·refine ⟨?_, n2, n3, ?_, ?_⟩
   ·rcases n1 with h | h
    ·exact hAo q h
    ·exact .inl (Nat.le_trans hS.base_le h)
   ·rw [hbx]
    intro s l hs e
    rcases n1 with h | h
    ·obtain ⟨ob', h⟩ := hA q h; exact (hS.hp q ob' h).2.2.2.1 s l hs e
    ·obtain ⟨_, _, cs, ty, q3, _⟩ := hS.box s l hs
     have h5 := (Array.getElem?_eq_some_iff.1 q3).1
     have e : g.loc s = q := e
     omega
   ·rw [hrw]
    intro s r hs e
    rcases n1 with h | h
    ·obtain ⟨ob', h⟩ := hA q h; exact (hS.hp q ob' h).2.2.2.2 s r hs e
    ·obtain ⟨_, _, _, _, _, _, _, r6⟩ := hS.row s r.1 r.2 hs
     have := (r6 q e).2.1; omega
def rowsY : V → Option (List (List V))
 | .sl r => some r
 | .osl _ r => some r
 | _ => none
def appS (k : Nat) (x y : V) : Option V := match x with
 | .osl k0 rows => (rowsY y).bind fun r2 => if k0 = k ∧ r2.all (fun r => decide (r.length = k)) = true ∧ rows.length + r2.length ≤ 4294967296 then some (.osl k (rows ++ r2)) else none
 | _ => none
theorem appS_some {k : Nat} {x y z : V} (h : appS k x y = some z) : ∃ rows r2, x = .osl k rows ∧ rowsY y = some r2 ∧ (∀ r ∈ r2, r.length = k) ∧ rows.length + r2.length ≤ 4294967296 ∧ z = .osl k (rows ++ r2) := by
 unfold appS at h
 split at h
 ·obtain ⟨r2, h1, h⟩ := oB_ h
  split at h
  ·rename_i hc
   obtain ⟨rfl, h4, h5⟩ := hc
   exact ⟨_, r2, rfl, h1, fun r hr => by simpa using List.all_eq_true.1 h4 r hr, h5, (oJ_ h).symm⟩
  ·cases h
 ·cases h
theorem run_append_roomF {t ty e : TypeId} {i : TypeInfo} (ht : P.underlying t = some (.slice e)) (hi : P.info? e = some i) {b sLen sCap m c : Nat} {ad : Addr} {news : List Value} {w' : World} (hl : news.length = m * i.size) (hnews : ∀ j u, news[j]? = some u → w.cell? (ad.add j) = some u)
  (hroom : sLen + m ≤ sCap) (hst : (storeCells ⟨b, sLen * i.size, none⟩ news 0).run P w = .ok () w') :
  (Builtin.append_ #[t, t] ty #[.slice (some ⟨b, 0, none⟩) sLen sCap, .slice (some ad) m c]).run P w = .ok (.slice (some ⟨b, 0, none⟩) (sLen + m) sCap) w' := by
 have hfc := run_firstCells_some (P := P) w i.size m ad m c news hl hnews
 simp [Builtin.append_, run_underlying ht, sizeOf, typeInfo, hi, Builtin.lenOf, hroom, hfc, Addr.add_lit, hst]
theorem app_core {t ty e k bytes : Nat} (el : Elem P t e k bytes) {hp : Hp} {M : Mem} {F : Nat → Prop} {v : Value} {rows : List (List V)} (hx : RelT hp M F v (.osl k rows)) (hhp : ∀ q ob, hp q = some ob → w.heap[q]? = some ob) (hFh : ∀ q, F q → ∃ ob, hp q = some ob)
  {b2 o2 c2 : Nat} {news : List Value} {r2 : List (List V)} {G : Nat → Nat → Prop} (h0 : 0 < r2.length) (hk2 : ∀ r ∈ r2, r.length = k) (hl : news.length = r2.length * k) (hnews : ∀ j u, news[j]? = some u → w.cell? ⟨b2, o2 + j, none⟩ = some u) (hone : ∀ u ∈ news, u.oneCell' = true)
  (hr2 : ∀ i r, r2[i]? = some r → ∀ j z, r[j]? = some z → RelT hp M (G (i * k + j)) (news.getD (i * k + j) undef) z) (hGd : ∀ m m' q, G m q → G m' q → m = m') (hGF : ∀ m q, G m q → ¬ F q) (hGh : ∀ m q, G m q → ∃ ob, hp q = some ob) (hlen : rows.length + r2.length ≤ 4294967296) (hby : bytes ≤ 32768) :
  ∃ v' w' q0 ob0, (Builtin.append_ #[t, t] ty #[v, .slice (some ⟨b2, o2, none⟩) r2.length c2]).run P w = .ok v' w' ∧ (F q0 ∨ w.heap.size ≤ q0) ∧ w'.heap[q0]? = some ob0 ∧ BelowF (fun q => q = q0) w.heap.size w w' ∧ v'.oneCell' = true ∧
   RelT (upd hp q0 (some ob0)) M (fun q => F q ∨ q = q0 ∨ ∃ m, G m q) v' (.osl k (rows ++ r2)) := by
 obtain ⟨i, z, hi, hz, hsize, hbyt, hzs⟩ := el.hi
 have hlt : ∀ q ob, hp q = some ob → q < w.heap.size := fun q ob h => (Array.getElem?_eq_some_iff.1 (hhp q ob h)).1
 have hadd : ∀ j, (⟨b2, o2, none⟩ : Addr).add j = ⟨b2, o2 + j, none⟩ := fun j => addr_add _ _ _
 have hnews' : ∀ j u, news[j]? = some u → w.cell? ((⟨b2, o2, none⟩ : Addr).add j) = some u := fun j u h => by rw [hadd]; exact hnews j u h
 have hb2 : (rows.length + r2.length) * bytes ≤ 140737488355328 := Nat.le_trans (Nat.mul_le_mul hlen hby) (by decide)
 have h63 : rows.length + r2.length ≤ maxLen := by unfold maxLen; omega
 have htot : (rows ++ r2).length = rows.length + r2.length := List.length_append
 -- the tree, once its block is known
 have fin : ∀ (q0 c : Nat) (cur : Array Value) (ty0 : TypeId) (fz : Nat × Nat) (olds : List Value) (Fi : Nat → Nat → Prop), NoFz fz cur.size → cur.size = c * k → rows.length + r2.length ≤ c → c ≤ maxLen → olds.length = rows.length * k → (∀ r ∈ rows, r.length = k) →
   (∀ m, m < (rows.length + r2.length) * k → cur.getD m undef = (olds ++ news).getD m undef) → (∀ i r, rows[i]? = some r → ∀ j, j < k → (olds.getD (i * k + j) undef).oneCell' = true) →
   (∀ i r, rows[i]? = some r → ∀ j x, r[j]? = some x → RelT hp M (Fi (i * k + j)) (olds.getD (i * k + j) undef) x) → (∀ i q, Fi i q → F q ∧ q ≠ q0) → (∀ i i' q, Fi i q → Fi i' q → i = i') → (∀ m q, G m q → q ≠ q0) →
   RelT (upd hp q0 (some (.cells cur ty0 fz))) M (fun q => F q ∨ q = q0 ∨ ∃ m, G m q) (.slice (some ⟨q0, 0, none⟩) (rows.length + r2.length) c) (.osl k (rows ++ r2)) := by
  intro q0 c cur ty0 fz olds Fi hfz hcs hnc hcm hol hrk hcur ho1 hor hsub hdis hGq
  rw [← htot]
  have hrow : ∀ (i : Nat) (r : List V), (rows ++ r2)[i]? = some r → (i < rows.length ∧ rows[i]? = some r) ∨ (rows.length ≤ i ∧ r2[i - rows.length]? = some r) := fun i r hr => by
   by_cases h : i < rows.length
   ·rw [List.getElem?_append_left h] at hr; exact .inl ⟨h, hr⟩
   ·rw [List.getElem?_append_right (by omega)] at hr; exact .inr ⟨by omega, hr⟩
  have hidx : ∀ (i : Nat) (r : List V), (rows ++ r2)[i]? = some r → ∀ j, j < k → i * k + j < (rows.length + r2.length) * k := fun i r hr j hj => by
   have h1 := (gS_ hr).1
   rw [htot] at h1
   have : (i + 1) * k ≤ (rows.length + r2.length) * k := Nat.mul_le_mul_right _ (by omega)
   rw [Nat.add_mul] at this; omega
  have hold : ∀ i j, i < rows.length → j < k → i * k + j < rows.length * k := fun i j hi2 hj => by
   have : (i + 1) * k ≤ rows.length * k := Nat.mul_le_mul_right _ (by omega)
   rw [Nat.add_mul] at this; omega
  have hnew : ∀ i j, rows.length ≤ i → i * k + j - rows.length * k = (i - rows.length) * k + j ∧ rows.length * k ≤ i * k + j := fun i j h => by
   have h1 : i * k = (i - rows.length) * k + rows.length * k := by rw [← Nat.add_mul]; congr 1; omega
   omega
  have hgl : ∀ i j, i < rows.length → j < k → (olds ++ news).getD (i * k + j) undef = olds.getD (i * k + j) undef := fun i j h1 h2 => by
   rw [List.getD, List.getElem?_append_left (by rw [hol]; exact hold i j h1 h2)]; rfl
  have hgr : ∀ i j, rows.length ≤ i → (olds ++ news).getD (i * k + j) undef = news.getD ((i - rows.length) * k + j) undef := fun i j h1 => by
   rw [List.getD, List.getElem?_append_right (by rw [hol]; exact (hnew i j h1).2), hol, (hnew i j h1).1]; rfl
  have hk0 : ∀ (i : Nat) (r : List V), (rows ++ r2)[i]? = some r → r.length = k := fun i r hr => by
   rcases hrow i r hr with ⟨_, h⟩ | ⟨_, h⟩
   ·exact hrk r (List.mem_of_getElem? h)
   ·exact hk2 r (List.mem_of_getElem? h)
  refine .osl _ q0 c k cur ty0 fz hfz _ (fun m => if m < rows.length * k then Fi m else G (m - rows.length * k)) (.inr (.inl rfl)) (upd_same _ _ _) hcs (by rw [htot]; exact hnc) hcm (fun r hr => by obtain ⟨i, hi⟩ := List.getElem?_of_mem hr; exact hk0 i r hi) (fun i r hr j hj => ?_) (fun i r hr j x hxx => ?_) (fun m q hq => ?_) (fun m m' q h1 h2 => ?_)
  ·rw [hcur _ (hidx i r hr j hj)]
   rcases hrow i r hr with ⟨h1, h2⟩ | ⟨h1, h2⟩
   ·rw [hgl i j h1 hj]; exact ho1 i r h2 j hj
   ·rw [hgr i j h1]
    have h3 : (i - rows.length) * k + j < news.length := by
     rw [hl]
     have h4 := (gS_ h2).1
     have : (i - rows.length + 1) * k ≤ r2.length * k := Nat.mul_le_mul_right _ h4
     rw [Nat.add_mul] at this; omega
    rw [List.getD, gE_ h3]
    exact hone _ (List.getElem_mem h3)
  ·have hj : j < k := by rw [← hk0 i r hr]; exact (gS_ hxx).1
   rw [hcur _ (hidx i r hr j hj)]
   rcases hrow i r hr with ⟨h1, h2⟩ | ⟨h1, h2⟩
   ·rw [hgl i j h1 hj, if_pos (hold i j h1 hj)]
    exact (hor i r h2 j x hxx).congr fun q hq => upd_ne _ _ (hsub _ q hq).2
   ·rw [hgr i j h1, if_neg (by have := (hnew i j h1).2; omega), (hnew i j h1).1]
    exact (hr2 _ r h2 j x hxx).congr fun q hq => upd_ne _ _ (hGq _ q hq)
  ·by_cases h : m < rows.length * k
   ·simp only [if_pos h] at hq; exact ⟨.inl (hsub m q hq).1, (hsub m q hq).2⟩
   ·simp only [if_neg h] at hq; exact ⟨.inr (.inr ⟨_, hq⟩), hGq _ q hq⟩
  ·by_cases h : m < rows.length * k <;> by_cases h' : m' < rows.length * k
   ·simp only [if_pos h, if_pos h'] at h1 h2; exact hdis m m' q h1 h2
   ·simp only [if_pos h, if_neg h'] at h1 h2; exact absurd (hsub m q h1).1 (hGF _ q h2)
   ·simp only [if_neg h, if_pos h'] at h1 h2; exact absurd (hsub m' q h2).1 (hGF _ q h1)
   ·simp only [if_neg h, if_neg h'] at h1 h2
    have := hGd _ _ q h1 h2
    omega
 -- a new block
 have made : ∀ (v' : Value) (w' : World) (olds : List Value) (Fi : Nat → Nat → Prop), w'.ownsRow w.heap.size e k v' (rows.length + r2.length) (olds ++ news) → w.grownBy w' none → olds.length = rows.length * k → (∀ r ∈ rows, r.length = k) →
   (∀ i r, rows[i]? = some r → ∀ j, j < k → (olds.getD (i * k + j) undef).oneCell' = true) → (∀ i r, rows[i]? = some r → ∀ j x, r[j]? = some x → RelT hp M (Fi (i * k + j)) (olds.getD (i * k + j) undef) x) → (∀ i q, Fi i q → F q) → (∀ i i' q, Fi i q → Fi i' q → i = i') →
   ∃ q0 ob0, (F q0 ∨ w.heap.size ≤ q0) ∧ w'.heap[q0]? = some ob0 ∧ BelowF (fun q => q = q0) w.heap.size w w' ∧ v'.oneCell' = true ∧ RelT (upd hp q0 (some ob0)) M (fun q => F q ∨ q = q0 ∨ ∃ m, G m q) v' (.osl k (rows ++ r2)) := by
  intro v' w' olds Fi hown hgr hol hrk ho1 hor hsub hdis
  obtain ⟨hl2, hd⟩ := hown
  rcases hd with ⟨_, h⟩ | ⟨q, cap, cur, rfl, hg, hh, hnc, hm, hs, ht⟩
  ·omega
  ·refine ⟨q, _, .inr hg, hh, ⟨hgr.os, hgr.tape, hgr.output, hgr.size, fun n hn _ => hgr.block n hn (by simp)⟩, rfl, fin q cap cur e (0, 0) olds Fi (fun j _ => by simp) hs hnc hm hol hrk (fun m hm => ?_) ho1 hor (fun i q' hq' => ⟨hsub i q' hq', fun e2 => ?_⟩) hdis (fun m q' hq' e2 => ?_)⟩
   ·have h1 : (cur.toList.take ((rows.length + r2.length) * k))[m]? = (olds ++ news)[m]? := by rw [ht]
    rw [List.getElem?_take, if_pos hm] at h1
    rw [List.getD, ← h1]
    simp [Array.getD_eq_getD_getElem?]
   ·obtain ⟨ob, h⟩ := hFh _ (hsub i q' hq')
    have := hlt _ ob h; omega
   ·obtain ⟨ob, h⟩ := hGh m q' hq'
    have := hlt _ ob h; omega
 cases hx with
 | pure _ _ _ h => exact absurd h rel_osl
 | oslNil =>
  obtain ⟨v', w', hrun, h2, h3, _, _⟩ := run_append_own_at (P := P) w w.heap.size t ty e i z k bytes el.ht hi hz hsize hbyt hzs el.hk (.slice none 0 0) 0 [] (w.ownsRow_nil _ e k) ⟨b2, o2, none⟩ r2.length c2 news hl hnews' hone (by simpa using h63) (by simpa using hb2) (Nat.le_refl _)
  obtain ⟨q0, ob0, k1, k2, k3, k4, k5⟩ := made v' w' [] (fun _ _ => False) (by simpa using h2) (by simpa [Value.ownBlock] using h3) (by simp) (by simp) (by simp) (by simp) (fun _ _ h => h.elim) (fun _ _ _ h => h.elim)
  exact ⟨v', w', q0, ob0, hrun, k1, k2, k3, k4, k5⟩
 | osl _ b c _ cs ty0 fz hfz _ Fi hb hh hs hn hm hk h1 hr sub dis =>
  have hw := hhp b _ hh
  have hcs : ∀ m, m < rows.length * k → m < cs.size := fun m hm2 => by rw [hs]; exact Nat.lt_of_lt_of_le hm2 (Nat.mul_le_mul_right _ hn)
  by_cases hroom : rows.length + r2.length ≤ c
  ·have hfit : rows.length * k + 0 + news.length ≤ cs.size := by
    rw [hs, hl, Nat.add_zero, ← Nat.add_mul]; exact Nat.mul_le_mul_right _ hroom
   obtain ⟨w', m1, m2, m3, m4, m5, m6, m7⟩ := storeCells_blockF (P := P) b ty0 fz news 0 (rows.length * k) cs w hw hfz hfit hone
   obtain ⟨f1, f2⟩ := foldl_set (rows.length * k) news 0 cs hfit
   generalize ((news.zipIdx 0).foldl (fun cs (p : Value × Nat) => cs.setIfInBounds (rows.length * k + p.2) p.1) cs) = cs' at m2 f1 f2
   refine ⟨_, w', b, _, run_append_roomF el.ht hi (by rw [hsize]; exact hl) hnews' hroom (by rw [hsize]; exact m1), .inl hb, m2, ⟨m4, m5, m6, Nat.le_of_eq m3.symm, fun n _ hne => m7 n hne⟩, rfl, ?_⟩
   refine fin b c cs' ty0 fz (cs.toList.take (rows.length * k)) Fi (by rw [f1]; exact hfz) (f1.trans hs) hroom hm (by rw [List.length_take, Array.length_toList (xs := cs), hs]; exact Nat.min_eq_left (Nat.mul_le_mul_right _ hn)) hk (fun m hm2 => ?_) (fun i r hr2 j hj => ?_) (fun i r hr2 j x hx => ?_) sub dis (fun m q hq e => hGF m q hq (by rw [e]; exact hb))
   ·rw [f2 m]
    have hlt : (cs.toList.take (rows.length * k)).length = rows.length * k := by rw [List.length_take, Array.length_toList (xs := cs), hs]; exact Nat.min_eq_left (Nat.mul_le_mul_right _ hn)
    rw [Nat.add_mul, ← hl] at hm2
    by_cases hc : m < rows.length * k
    ·rw [if_neg (by omega), List.getD, List.getElem?_append_left (by rw [hlt]; exact hc), List.getElem?_take, if_pos hc]
     simp [Array.getD_eq_getD_getElem?]
    ·rw [if_pos (by omega), List.getD, List.getD, List.getElem?_append_right (by rw [hlt]; omega), hlt]
     simp
   ·have hj2 : i * k + j < rows.length * k := by
     have := (gS_ hr2).1
     have : (i + 1) * k ≤ rows.length * k := Nat.mul_le_mul_right _ (by omega)
     rw [Nat.add_mul] at this; omega
    rw [List.getD, List.getElem?_take, if_pos hj2]
    have := h1 i r hr2 j hj
    simpa [Array.getD_eq_getD_getElem?] using this
   ·have hj : j < k := by rw [← hk r (List.mem_of_getElem? hr2)]; exact (gS_ hx).1
    have hj2 : i * k + j < rows.length * k := by
     have := (gS_ hr2).1
     have : (i + 1) * k ≤ rows.length * k := Nat.mul_le_mul_right _ (by omega)
     rw [Nat.add_mul] at this; omega
    rw [List.getD, List.getElem?_take, if_pos hj2]
    have := hr i r hr2 j x hx
    simpa [Array.getD_eq_getD_getElem?] using this
  ·have hlt0 : (cs.toList.take (rows.length * k)).length = rows.length * k := by rw [List.length_take, Array.length_toList (xs := cs), hs]; exact Nat.min_eq_left (Nat.mul_le_mul_right _ hn)
   obtain ⟨v', w', hrun, hown, hgr⟩ := run_append_arg_grows (P := P) (w := w) t ty e i z k bytes el.ht hi hz hsize hbyt hzs el.hk ⟨b, 0, none⟩ rows.length c (cs.toList.take (rows.length * k)) hlt0 (fun j u hu => by
    rw [List.getElem?_take] at hu
    split at hu
    ·rw [addr_add, Nat.zero_add]
     simp only [World.cell?, hw]
     simpa using hu
    ·cases hu) ⟨b2, o2, none⟩ r2.length c2 news hl hnews' (by omega) h63 hb2
   have hj2 : ∀ (i : Nat) (r : List V), rows[i]? = some r → ∀ j, j < k → i * k + j < rows.length * k := fun i r hr2 j hj => by
    have := (gS_ hr2).1
    have : (i + 1) * k ≤ rows.length * k := Nat.mul_le_mul_right _ (by omega)
    rw [Nat.add_mul] at this; omega
   obtain ⟨q0, ob0, k1, k2, k3, k4, k5⟩ := made v' w' _ Fi hown hgr hlt0 hk (fun i r hr2 j hj => by
    rw [List.getD, List.getElem?_take, if_pos (hj2 i r hr2 j hj)]
    have := h1 i r hr2 j hj
    simpa [Array.getD_eq_getD_getElem?] using this) (fun i r hr2 j x hx => by
    have hj : j < k := by rw [← hk r (List.mem_of_getElem? hr2)]; exact (gS_ hx).1
    rw [List.getD, List.getElem?_take, if_pos (hj2 i r hr2 j hj)]
    have := hr i r hr2 j x hx
    simpa [Array.getD_eq_getD_getElem?] using this) (fun i q hq => (sub i q hq).1) dis
   exact ⟨v', w', q0, ob0, hrun, k1, k2, k3, k4, k5⟩
theorem Sim.newTree (hS : Sim P Dw F0 base M0 w0 N g st a w) (hf : Fresh st s) {A F' : Nat → Prop} {w' : World} {q0 : Nat} {ob0 : Obj} {v : Value} {z : V} (hA : ∀ q, A q → ∃ ob, g.hp q = some ob) (hAl : ∀ s1 x1 q, st.ow s1 = some x1 → A q → ¬ g.fp s1 q)
  (hq : A q0 ∨ w.heap.size ≤ q0) (hw : w'.heap[q0]? = some ob0) (hB : BelowF (fun q => q = q0) w.heap.size w w') (hz : RelT (upd g.hp q0 (some ob0)) g.M F' v z) (hF : ∀ q, F' q → A q ∨ q = q0) :
  ∃ g', Sim P Dw F0 base M0 w0 N g' { st with ow := upd st.ow s (some z) } a w' ∧ g'.ov s = v := by
 have hnq : ∀ s1 x1 q, st.ow s1 = some x1 → g.fp s1 q → q ≠ q0 := fun s1 x1 q h1 h2 e => by
  subst e
  rcases hq with h | h
  ·exact hAl s1 x1 q h1 h h2
  ·obtain ⟨ob, h3⟩ := hS.fph s1 x1 q h1 h2
   have := (Array.getElem?_eq_some_iff.1 (hS.hp q ob h3).2.1).1
   omega
 have hmem : ∀ b o u, g.M b o = some u → b ≠ q0 := fun b o u hu e => by
  subst e
  rcases hq with h | h
  ·obtain ⟨ob, h⟩ := hA b h
   have := (hS.hp b ob h).2.2.1 o
   rw [this] at hu; cases hu
  ·have := mem_lt hS.mem hu; omega
 have hs : st.ow s = none := hf.2.2.2.1
 refine ⟨_, hS.step2 (st' := { st with ow := upd st.ow s (some z) }) (M' := g.M) (hpN := upd g.hp q0 (some ob0)) (A := fun q => q = q0 ∧ A q) (fp' := fun s1 q => if s1 = s then F' q else g.fp s1 q) (ov' := upd g.ov s v) ⟨hB.os, hB.tape, hB.output, hB.size, fun k hk hn => hB.block k hk fun e => ?_⟩ (fun _ _ _ h => h) (fun b o u hu => ?_) (fun _ _ _ h _ _ => h) (fun q h => hA q h.2) (fun q ob h => ?_) rfl rfl (fun s1 h1 => upd_ne _ _ (by have := hf.2.2.2.2; omega)) (fun t => ?_) (fun s1 x1 h1 => ?_) (fun s1 x1 q h1 h2 => ?_) (fun s1 s2 x1 x2 h1 h2 hne q k1 k2 => ?_), upd_same _ _ _⟩
 ·subst e
  rcases hq with h | h
  ·exact hn ⟨rfl, h⟩
  ·omega
 ·rw [World.cell?_of_block (w := w) (hB.block b (mem_lt hS.mem hu) (hmem b o u hu))]
  exact hS.mem b o u hu
 ·by_cases e : q = q0
  ·subst e
   rw [upd_same] at h
   obtain rfl := oJ_ h
   refine .inr ⟨?_, hw, fun o => ?_⟩
   ·rcases hq with h | h
    ·exact .inl ⟨rfl, h⟩
    ·exact .inr h
   ·cases hm : g.M q o with
    | none => rfl
    | some u => exact absurd rfl (hmem q o u hm)
  ·rw [upd_ne _ _ e] at h
   exact .inl ⟨fun h => e h.1, (Array.getElem?_eq_some_iff.1 (hS.hp q ob h).2.1).1, h⟩
 ·have hsl := hS.slot t
  refine relC_g (g := g) hsl (KeepG.refl _) (fun _ _ _ h => h) rfl rfl (fun s' h' => upd_ne _ _ fun e => hf.1 t (by rw [h', e])) (fun s' p x y _ h' hp hx hy => ?_)
  rw [hS.gow] at hx
  refine ⟨by show upd st.ow s (some z) s' = some x; rw [upd_ne _ _ (fun e => hf.1 t (by rw [h', e]))]; exact hx, ?_⟩
  exact walk_congr p (hS.own s' x hx) hy fun q hq => upd_ne _ _ (hnq s' x q hx hq)
 ·have h1 : upd st.ow s (some z) s1 = some x1 := h1
  by_cases e : s1 = s
  ·subst e
   rw [upd_same] at h1
   obtain rfl := oJ_ h1
   simp only [upd_same, if_true]
   exact hz
  ·rw [upd_ne _ _ e] at h1 ⊢
   simp only [if_neg e]
   exact (hS.own s1 x1 h1).congr fun q hq => upd_ne _ _ (hnq s1 x1 q h1 hq)
 ·have h1 : upd st.ow s (some z) s1 = some x1 := h1
  by_cases eq : q = q0
  ·exact ⟨_, by rw [eq]; exact upd_same _ _ _⟩
  ·rw [upd_ne _ _ eq]
   by_cases e : s1 = s
   ·simp only [if_pos e] at h2
    exact hA q ((hF q h2).resolve_right eq)
   ·simp only [if_neg e] at h2
    rw [upd_ne _ _ e] at h1
    exact hS.fph s1 x1 q h1 h2
 ·have h1 : upd st.ow s (some z) s1 = some x1 := h1
  have h2 : upd st.ow s (some z) s2 = some x2 := h2
  by_cases e1 : s1 = s <;> by_cases e2 : s2 = s
  ·exact hne (e1.trans e2.symm)
  ·simp only [if_pos e1, if_neg e2] at k1 k2
   rw [upd_ne _ _ e2] at h2
   rcases hF q k1 with h | h
   ·exact hAl s2 x2 q h2 h k2
   ·exact hnq s2 x2 q h2 k2 h
  ·simp only [if_neg e1, if_pos e2] at k1 k2
   rw [upd_ne _ _ e1] at h1
   rcases hF q k2 with h | h
   ·exact hAl s1 x1 q h1 h k1
   ·exact hnq s1 x1 q h1 k1 h
  ·simp only [if_neg e1, if_neg e2] at k1 k2
   rw [upd_ne _ _ e1] at h1
   rw [upd_ne _ _ e2] at h2
   exact hS.owd s1 s2 x1 x2 h1 h2 hne q k1 k2
def takeO (st : St) (s : Nat) : List Stp → Option (V × St)
 | [] => (st.ow s).map fun x => (x, dropO st (some s))
 | p :: ps => (st.ow s).bind fun x => (getV x (p :: ps)).bind fun y => ((p :: ps).getLast?).bind fun q => (modX x (p :: ps).dropLast q .any).map fun x' => (y, { st.kill s ps.length with ow := upd st.ow s (some x') })
def srcO (st : St) (c : C) : Option (V × Option Nat) := match c with
 | .ref s3 [] [] => (st.ow s3).map fun x => (x, some s3)
 | c => some (st.asV c, none)
def appO (P : Program) (s : Nat) (st : St) (dst : Option Nat) (t : TypeId) (cx : C) (y : Operand) : Option St := (elemP P t).bind fun p => (match cx with
  | .nil => some (V.osl p.2 [], st)
  | .ref s2 pa [] => takeO st s2 pa
  | _ => none).bind fun r => (srcO r.2 (r.2.ev y)).bind fun q => (appS p.2 r.1 q.1).map fun z => ({ dropO r.2 q.2 with ow := upd (dropO r.2 q.2).ow s (some z) }).put dst (.ref s [] [])
theorem take_ok (hS : Sim P Dw F0 base M0 w0 N g st a w) {s2 : Nat} {pa : List Stp} {x : V} {st1 : St} {v : Value} (hv : RelC g v (.ref s2 pa [])) (h : takeO st s2 pa = some (x, st1)) :
  ∃ g1 FX, Sim P Dw F0 base M0 w0 N g1 st1 a w ∧ g1.hp = g.hp ∧ g1.M = g.M ∧ RelT g.hp g.M FX v x ∧ (∀ q, FX q → ∃ ob, g.hp q = some ob) ∧ (∀ s1 x1 q, st1.ow s1 = some x1 → FX q → ¬ g1.fp s1 q) ∧ (∀ s', Fresh st s' → Fresh st1 s') := by
 obtain ⟨_, hw⟩ := hv (by simp)
 cases pa with
 | nil =>
  simp only [takeO] at h
  obtain ⟨x0, hx0, e⟩ := oM_ h
  simp only [Prod.mk.injEq] at e
  obtain ⟨rfl, rfl⟩ := e
  simp only [walkV, oE_] at hw
  refine ⟨_, g.fp s2, hS.dropO (some s2), rfl, rfl, by rw [← hw]; exact hS.own s2 x0 hx0, fun q hq => hS.fph s2 x0 q hx0 hq, fun s1 x1 q h1 hq hq1 => ?_, fun s' hf => hf.dropO _⟩
  have h1 : upd st.ow s2 none s1 = some x1 := h1
  by_cases e : s1 = s2
  ·subst e; rw [upd_same] at h1; cases h1
  ·rw [upd_ne _ _ e] at h1
   exact hS.owd s2 s1 x0 x1 hx0 h1 (Ne.symm e) q hq hq1
 | cons p ps =>
  simp only [takeO] at h
  obtain ⟨x0, hx0, h⟩ := oB_ h
  obtain ⟨y, hy, h⟩ := oB_ h
  obtain ⟨q, hq, h⟩ := oB_ h
  obtain ⟨x', hx', e⟩ := oM_ h
  simp only [Prod.mk.injEq] at e
  obtain ⟨rfl, rfl⟩ := e
  obtain ⟨y2, u, G, k1, k2, k3, k4, k5, k6⟩ := (hS.own s2 x0 hx0).modX _ hx'
  rw [show (p :: ps).dropLast ++ [q] = p :: ps from by obtain ⟨ys, e⟩ := List.getLast?_eq_some_iff.1 hq; rw [e]; simp] at k1 k2
  rw [hy] at k1
  obtain rfl := oJ_ k1
  rw [hw] at k2
  obtain rfl := oJ_ k2
  have hleft : RelT g.hp g.M (fun q => g.fp s2 q ∧ ¬ G q) (g.ov s2) x' := k6 g.M (fun _ => False) _ (fun _ _ _ h => h) (.pure _ _ _ (.any _)) (fun _ h => h.elim) (fun q h h2 => ⟨h, h2⟩) (fun _ h => h.elim)
  refine ⟨_, G, hS.step2 (w' := w) (M' := g.M) (hpN := g.hp) (A := fun _ => False) (st' := { st.kill s2 ps.length with ow := upd st.ow s2 (some x') }) (fp' := upd g.fp s2 (fun q => g.fp s2 q ∧ ¬ G q)) (ov' := g.ov) (BelowF.refl _ _ _) (fun _ _ _ h => h) hS.mem (fun _ _ _ h _ _ => h) (fun _ h => h.elim) (fun q ob h => .inl ⟨fun h => h, (Array.getElem?_eq_some_iff.1 (hS.hp q ob h).2.1).1, h⟩) rfl rfl (fun _ _ => rfl) (fun t => ?_) (fun s1 x1 h1 => ?_) (fun s1 x1 q1 h1 h2 => ?_) (fun s1 s3 x1 x3 h1 h3 hne q1 q2 q3 => ?_), rfl, rfl, k4, fun q1 hq1 => hS.fph s2 x0 q1 hx0 (k5 q1 hq1), fun s1 x1 q1 h1 hq1 hq2 => ?_, fun s' hf => ?_⟩
  ·refine relC_kill (g := g) (hS.slot t) rfl rfl rfl rfl (fun p2 x2 y2 hp2 hl2 hx2 hy2 => ⟨?_, rfl⟩) (fun s' p2 x2 y2 hne hp2 hx2 hy2 => ⟨?_, rfl⟩)
   ·rw [hS.gow, hx0] at hx2
    obtain rfl := oJ_ hx2
    obtain ⟨y', hy'⟩ := getV_modX _ p2 hx' hy2 (by simpa using hl2)
    exact ⟨x', y', upd_same _ _ _, hy'⟩
   ·rw [hS.gow] at hx2
    refine ⟨x2, y2, ?_, hy2⟩
    show upd st.ow s2 (some x') s' = some x2
    rw [upd_ne _ _ hne]; exact hx2
  ·have h1 : upd st.ow s2 (some x') s1 = some x1 := h1
   by_cases e : s1 = s2
   ·subst e
    rw [upd_same] at h1 ⊢
    obtain rfl := oJ_ h1
    exact hleft
   ·rw [upd_ne _ _ e] at h1 ⊢; exact hS.own s1 x1 h1
  ·have h1 : upd st.ow s2 (some x') s1 = some x1 := h1
   by_cases e : s1 = s2
   ·subst e
    rw [upd_same] at h2
    exact hS.fph s1 x0 q1 hx0 h2.1
   ·rw [upd_ne _ _ e] at h1 h2; exact hS.fph s1 x1 q1 h1 h2
  ·have h1 : upd st.ow s2 (some x') s1 = some x1 := h1
   have h3 : upd st.ow s2 (some x') s3 = some x3 := h3
   by_cases e : s1 = s2 <;> by_cases e' : s3 = s2
   ·exact hne (e.trans e'.symm)
   ·subst e
    rw [upd_same] at q2
    rw [upd_ne _ _ e'] at h3 q3
    exact hS.owd s1 s3 x0 x3 hx0 h3 hne q1 q2.1 q3
   ·subst e'
    rw [upd_same] at q3
    rw [upd_ne _ _ e] at h1 q2
    exact hS.owd s1 s3 x1 x0 h1 hx0 hne q1 q2 q3.1
   ·rw [upd_ne _ _ e] at h1 q2
    rw [upd_ne _ _ e'] at h3 q3
    exact hS.owd s1 s3 x1 x3 h1 h3 hne q1 q2 q3
  ·have h1 : upd st.ow s2 (some x') s1 = some x1 := h1
   have hq2 : upd g.fp s2 (fun q => g.fp s2 q ∧ ¬ G q) s1 q1 := hq2
   by_cases e : s1 = s2
   ·subst e
    rw [upd_same] at hq2
    exact hq2.2 hq1
   ·rw [upd_ne _ _ e] at h1 hq2
    exact hS.owd s2 s1 x0 x1 hx0 h1 (Ne.symm e) q1 (k5 q1 hq1) hq2
  ·refine ⟨fun t => killC_site (hf.1 t), hf.2.1, hf.2.2.1, ?_, hf.2.2.2.2⟩
   show upd st.ow s2 (some x') s' = none
   rw [upd_ne _ _ (fun e => by rw [e] at hf; rw [hf.2.2.2.1] at hx0; cases hx0)]
   exact hf.2.2.2.1
theorem src_ok (hS : Sim P Dw F0 base M0 w0 N g st a w) {y : Operand} {q : V × Option Nat} (h : srcO st (st.ev y) = some q) {r2 : List (List V)} (hr : rowsY q.1 = some r2) {k : Nat} (h0 : 0 < r2.length) (hk0 : 0 < k) (hk : ∀ r ∈ r2, r.length = k) :
  ∃ (b2 o2 c2 : Nat) (news : List Value) (G : Nat → Nat → Prop) (FY : Nat → Prop), a.eval y = .slice (some ⟨b2, o2, none⟩) r2.length c2 ∧ news.length = r2.length * k ∧ (∀ j u, news[j]? = some u → w.cell? ⟨b2, o2 + j, none⟩ = some u) ∧ (∀ u ∈ news, u.oneCell' = true) ∧
   (∀ i r, r2[i]? = some r → ∀ j z, r[j]? = some z → RelT g.hp g.M (G (i * k + j)) (news.getD (i * k + j) undef) z) ∧ (∀ m m' q, G m q → G m' q → m = m') ∧ (∀ m q, G m q → FY q) ∧ (∀ q, FY q → ∃ ob, g.hp q = some ob) ∧ (∀ s1 x1 q1, (dropO st q.2).ow s1 = some x1 → FY q1 → ¬ g.fp s1 q1) ∧ (∀ q1, FY q1 → ∃ s3 x3, st.ow s3 = some x3 ∧ g.fp s3 q1) := by
 have pure : ∀ ys, Rel g.M (a.eval y) (.sl ys) → ys = r2 → ∃ (b2 o2 c2 : Nat) (news : List Value), a.eval y = .slice (some ⟨b2, o2, none⟩) r2.length c2 ∧ news.length = r2.length * k ∧ (∀ j u, news[j]? = some u → w.cell? ⟨b2, o2 + j, none⟩ = some u) ∧ (∀ u ∈ news, u.oneCell' = true) ∧
   (∀ i r, r2[i]? = some r → ∀ j z, r[j]? = some z → Rel g.M (news.getD (i * k + j) undef) z) := by
  rintro ys hy rfl
  obtain ⟨A, c, k', b, off, hya, hsl⟩ := rel_sl hy
  have hr0 := gE_ h0
  have hk' : k' = k := by rw [← hsl.hk _ (List.mem_of_getElem? hr0), hk _ (List.mem_of_getElem? hr0)]
  subst hk'
  have hcell : ∀ i r, ys[i]? = some r → ∀ j z, r[j]? = some z → ∃ u, g.M b (off + i * k' + j) = some u ∧ u.oneCell' = true ∧ Rel g.M u z := fun i r hr j z hz => hsl.hr i r hr j z hz
  have hfl : (valsOf g.M b off k' ys.length).flatten.length = ys.length * k' := by
   rw [flatten_length (k := k') (fun cs hcs => by
    obtain ⟨i', hi'⟩ := List.getElem?_of_mem hcs
    obtain ⟨_, rfl⟩ := valsOf_at hi'
    simp)]
   simp [valsOf]
  have hat : ∀ m, m < ys.length * k' → ∃ u, g.M b (off + m) = some u ∧ u.oneCell' = true ∧ (valsOf g.M b off k' ys.length).flatten[m]? = some u := fun m hm => by
   have hq : m / k' < ys.length := (Nat.div_lt_iff_lt_mul hk0).2 hm
   have hri := gE_ hq
   have hlen := hk _ (List.getElem_mem hq)
   have hj : m % k' < k' := Nat.mod_lt _ hk0
   obtain ⟨u, hu1, hu2, hu3⟩ := hcell _ _ hri _ _ (gE_ (by rw [hlen]; exact hj))
   have he : m / k' * k' + m % k' = m := by rw [Nat.mul_comm]; exact Nat.div_add_mod m k'
   rw [Nat.add_assoc, he] at hu1
   have h5 := valsOf_cell (M := g.M) (b := b) (o := off) hq hj
   rw [he, Nat.add_assoc, he, hu1] at h5
   exact ⟨u, hu1, hu2, h5⟩
  refine ⟨b, off, c, (valsOf g.M b off k' ys.length).flatten, by rw [hya, hsl.hA h0], hfl, fun j u hu => ?_, fun u hu => ?_, fun i r hr j z hz => ?_⟩
  ·have hj := (gS_ hu).1
   rw [hfl] at hj
   obtain ⟨u2, e1, _, e2⟩ := hat j hj
   rw [hu] at e2
   obtain rfl := oJ_ e2
   exact hS.mem _ _ _ e1
  ·obtain ⟨m, hm⟩ := List.getElem?_of_mem hu
   have hj := (gS_ hm).1
   rw [hfl] at hj
   obtain ⟨u2, _, e3, e2⟩ := hat m hj
   rw [hm] at e2
   obtain rfl := oJ_ e2
   exact e3
  ·obtain ⟨u, hu1, hu2, hu3⟩ := hcell i r hr j z hz
   have hi := (gS_ hr).1
   have hj : j < k' := by rw [← hk r (List.mem_of_getElem? hr)]; exact (gS_ hz).1
   rw [List.getD, valsOf_cell hi hj, hu1]
   exact hu3
 have viaPure : q = (st.rd y, none) → ∃ (b2 o2 c2 : Nat) (news : List Value) (G : Nat → Nat → Prop) (FY : Nat → Prop), a.eval y = .slice (some ⟨b2, o2, none⟩) r2.length c2 ∧ news.length = r2.length * k ∧ (∀ j u, news[j]? = some u → w.cell? ⟨b2, o2 + j, none⟩ = some u) ∧ (∀ u ∈ news, u.oneCell' = true) ∧
   (∀ i r, r2[i]? = some r → ∀ j z, r[j]? = some z → RelT g.hp g.M (G (i * k + j)) (news.getD (i * k + j) undef) z) ∧ (∀ m m' q, G m q → G m' q → m = m') ∧ (∀ m q, G m q → FY q) ∧ (∀ q, FY q → ∃ ob, g.hp q = some ob) ∧ (∀ s1 x1 q1, (dropO st q.2).ow s1 = some x1 → FY q1 → ¬ g.fp s1 q1) ∧ (∀ q1, FY q1 → ∃ s3 x3, st.ow s3 = some x3 ∧ g.fp s3 q1) := by
  rintro rfl
  have hrd := hS.rd y
  simp only at hr
  have : st.rd y = .sl r2 := by
   cases hc : st.rd y with
   | sl r => rw [hc] at hr; simpa [rowsY] using hr
   | osl k0 r => rw [hc] at hrd; exact absurd hrd rel_osl
   | _ => rw [hc] at hr; simp [rowsY] at hr
  rw [this] at hrd
  obtain ⟨b2, o2, c2, news, h1, h2, h3, h4, h5⟩ := pure r2 hrd rfl
  exact ⟨b2, o2, c2, news, fun _ _ => False, fun _ => False, h1, h2, h3, h4, fun i r hr j z hz => .pure _ _ _ (h5 i r hr j z hz), fun _ _ _ h => h.elim, fun _ _ h => h.elim, fun _ h => h.elim, fun _ _ _ _ h => h.elim, fun _ h => h.elim⟩
 unfold srcO at h
 split at h
 ·rename_i s3 hev
  obtain ⟨x, hx, rfl⟩ := oM_ h
  have hyr := hS.ev y
  rw [hev] at hyr
  have hov := (hyr (by simp)).2
  simp only [walkV, oE_] at hov
  have hT := hS.own s3 x hx
  rw [hov] at hT
  have hdr : ∀ s1 x1 q1, (dropO st (some s3)).ow s1 = some x1 → g.fp s3 q1 → ¬ g.fp s1 q1 := fun s1 x1 q1 h1 h2 h3 => by
   have h1 : upd st.ow s3 none s1 = some x1 := h1
   by_cases e : s1 = s3
   ·subst e; rw [upd_same] at h1; cases h1
   ·rw [upd_ne _ _ e] at h1; exact hS.owd s3 s1 x x1 hx h1 (Ne.symm e) q1 h2 h3
  simp only at hr
  generalize hvv : a.eval y = vy at hT
  cases hT with
  | pure _ _ _ hp =>
   have : x = .sl r2 := by
    cases x with
    | sl r => simpa [rowsY] using hr
    | osl k0 r => exact absurd hp rel_osl
    | _ => simp [rowsY] at hr
   subst this
   rw [← hvv] at hp
   obtain ⟨b2, o2, c2, news, h1, h2, h3, h4, h5⟩ := pure r2 hp rfl
   exact ⟨b2, o2, c2, news, fun _ _ => False, fun _ => False, by rw [← hvv]; exact h1, h2, h3, h4, fun i r hr j z hz => .pure _ _ _ (h5 i r hr j z hz), fun _ _ _ h => h.elim, fun _ _ h => h.elim, fun _ h => h.elim, fun _ _ _ _ h => h.elim, fun _ h => h.elim⟩
  | osl _ b c k0 cs ty fz hz rows Fi hb hh hs hn hm hk1 h1 hr3 sub dis =>
   simp only [rowsY, oE_] at hr
   subst hr
   have hr0 := gE_ h0
   have hk' : k0 = k := by rw [← hk1 _ (List.mem_of_getElem? hr0), hk _ (List.mem_of_getElem? hr0)]
   subst hk'
   have hw := (hS.hp b _ hh).2.1
   have hle : rows.length * k0 ≤ cs.size := by rw [hs]; exact Nat.mul_le_mul_right _ hn
   have hl2 : (cs.toList.take (rows.length * k0)).length = rows.length * k0 := by rw [List.length_take, Array.length_toList (xs := cs)]; exact Nat.min_eq_left hle
   have hidx : ∀ i r, rows[i]? = some r → ∀ j, j < k0 → i * k0 + j < rows.length * k0 := fun i r hr j hj => by
    have := (gS_ hr).1
    have : (i + 1) * k0 ≤ rows.length * k0 := Nat.mul_le_mul_right _ (by omega)
    rw [Nat.add_mul] at this; omega
   refine ⟨b, 0, c, cs.toList.take (rows.length * k0), Fi, g.fp s3, rfl, hl2, fun j u hu => ?_, fun u hu => ?_, fun i r hr j z hz => ?_, dis, fun m q hq => (sub m q hq).1, fun q hq => hS.fph s3 _ q hx hq, hdr, fun q1 h1 => ⟨s3, _, hx, h1⟩⟩
   ·rw [List.getElem?_take] at hu
    split at hu
    ·simp only [World.cell?, hw, Nat.zero_add]
     simpa using hu
    ·cases hu
   ·obtain ⟨m, hm⟩ := List.getElem?_of_mem hu
    rw [List.getElem?_take] at hm
    split at hm
    ·rename_i hmm
     have hq : m / k0 < rows.length := (Nat.div_lt_iff_lt_mul hk0).2 hmm
     have := h1 _ _ (gE_ hq) (m % k0) (Nat.mod_lt _ hk0)
     have he : m / k0 * k0 + m % k0 = m := by rw [Nat.mul_comm]; exact Nat.div_add_mod m k0
     rw [he] at this
     have hm2 : cs[m]? = some u := by simpa using hm
     rw [Array.getD_eq_getD_getElem?, hm2] at this
     exact this
    ·cases hm
   ·have hj : j < k0 := by rw [← hk1 r (List.mem_of_getElem? hr)]; exact (gS_ hz).1
    rw [List.getD, List.getElem?_take, if_pos (hidx i r hr j hj)]
    have := hr3 i r hr j z hz
    simpa [Array.getD_eq_getD_getElem?] using this
  | oslNil => simp only [rowsY, oE_] at hr; subst hr; simp at h0
  | _ => simp [rowsY] at hr
 ·obtain rfl := oJ_ h
  exact viaPure rfl
theorem src_none (hS : Sim P Dw F0 base M0 w0 N g st a w) {y : Operand} {q : V × Option Nat} (h : srcO st (st.ev y) = some q) (hr : rowsY q.1 = some []) : ∃ A c, a.eval y = .slice A 0 c := by
 unfold srcO at h
 split at h
 ·rename_i s3 hev
  obtain ⟨x, hx, rfl⟩ := oM_ h
  have hyr := hS.ev y
  rw [hev] at hyr
  have hov := (hyr (by simp)).2
  simp only [walkV, oE_] at hov
  have hT := hS.own s3 x hx
  rw [hov] at hT
  simp only at hr
  generalize a.eval y = vy at hT
  cases hT with
  | pure _ _ _ h =>
   cases x with
   | sl r =>
    obtain ⟨A, c, k', b, off, hya, hsl⟩ := rel_sl h
    simp only [rowsY, oE_] at hr
    subst hr
    exact ⟨A, c, hya⟩
   | osl k0 r => exact absurd h rel_osl
   | _ => simp [rowsY] at hr
  | osl _ b c k cs ty fz hz rows Fi hb hh hs hn hm hk h1 hr2 sub dis =>
   simp only [rowsY, oE_] at hr
   subst hr
   exact ⟨_, _, rfl⟩
  | oslNil _ k => exact ⟨_, _, rfl⟩
  | _ => simp [rowsY] at hr
 ·obtain rfl := oJ_ h
  have hrd := hS.asV (hS.ev y)
  simp only at hr
  generalize st.asV (st.ev y) = x at hrd hr
  cases x with
  | sl r =>
   obtain ⟨A, c, k', b, off, hya, hsl⟩ := rel_sl hrd
   simp only [rowsY, oE_] at hr
   subst hr
   exact ⟨A, c, hya⟩
  | osl k0 r => exact absurd hrd rel_osl
  | _ => simp [rowsY] at hr
theorem src_empty {size : Nat} {tx : TypeId} (hk : ∃ e', P.underlying tx = some (.slice e')) (A : Option Addr) (c : Nat) (w : World) : Src P size tx (.slice A 0 c) 0 [] w := by
 refine ⟨.inl hk, fun w' => rfl, ?_, ?_, by simp, by simp⟩
 ·cases A <;> simp [Builtin.firstCells, loadCells, loadCellsFrom]
 ·cases A <;> simp [Builtin.firstCells, loadCells, loadCellsFrom]
theorem appO_ok (hS : Sim P Dw F0 base M0 w0 N g st a w) (hf : Fresh st s) {dst : Option Nat} (hd : ∀ d, dst = some d → d < N) {t ty : TypeId} {x y : Operand} {cx : C} (hcx : RelC g (a.eval x) cx) {st' : St} (h : appO P s st dst t cx y = some st') :
  ∃ v w' g', (Builtin.append_ #[t, t] ty #[a.eval x, a.eval y]).run P w = .ok v w' ∧ Sim P Dw F0 base M0 w0 N g' st' (a.put dst v) w' := by
 unfold appO at h
 obtain ⟨⟨e, k⟩, hel, h⟩ := oB_ h
 obtain ⟨⟨xt, st1⟩, hr, h⟩ := oB_ h
 obtain ⟨q, hq, h⟩ := oB_ h
 obtain ⟨z, hz, rfl⟩ := oM_ h
 obtain ⟨bytes, el, hby, hsz⟩ := elemP_some hel
 simp only at el hsz hq hz hr
 have hx := hcx
 -- what is taken
 obtain ⟨g1, FX, hS1, e1, e2, hT, hFXh, hFXl, hff⟩ : ∃ g1 FX, Sim P Dw F0 base M0 w0 N g1 st1 a w ∧ g1.hp = g.hp ∧ g1.M = g.M ∧ RelT g.hp g.M FX (a.eval x) xt ∧ (∀ q, FX q → ∃ ob, g.hp q = some ob) ∧ (∀ s1 x1 q, st1.ow s1 = some x1 → FX q → ¬ g1.fp s1 q) ∧ (∀ s', Fresh st s' → Fresh st1 s') := by
  generalize hev : cx = c0 at hr
  split at hr
  ·simp only [oE_, Prod.mk.injEq] at hr
   obtain ⟨rfl, rfl⟩ := hr
   rw [hev] at hx
   simp only [RelC] at hx
   exact ⟨g, fun _ => False, hS, rfl, rfl, by rw [hx]; exact .oslNil _ _, fun _ h => h.elim, fun _ _ _ _ h => h.elim, fun _ h => h⟩
  ·rw [hev] at hx
   exact take_ok hS hx hr
  ·cases hr
 rw [← e1, ← e2] at hT
 rw [← e1] at hFXh
 obtain ⟨rows, r2, rfl, hry, hk2, hlen, rfl⟩ := appS_some hz
 rcases Nat.eq_zero_or_pos r2.length with h0 | h0
 ·obtain rfl : r2 = [] := List.eq_nil_of_length_eq_zero h0
  obtain ⟨A2, c2, hy⟩ := src_none hS1 hq hry
  obtain ⟨A1, n1, c1, hxv, hnc⟩ : ∃ A1 n1 c1, a.eval x = .slice A1 n1 c1 ∧ n1 ≤ c1 := by
   have hT2 := hT
   generalize a.eval x = vx at hT2
   cases hT2 with
   | pure _ _ _ h => exact absurd h rel_osl
   | osl _ b c k cs ty fz hz rows Fi hb hh hs hn hm hk h1 hr sub dis => exact ⟨_, _, _, rfl, by omega⟩
   | oslNil _ k => exact ⟨_, _, _, rfl, Nat.le_refl _⟩
  obtain ⟨i, zz, hi, _⟩ := el.hi
  have hrun := run_append_nothing (P := P) w t t ty e i el.ht hi A1 n1 c1 hnc (.slice A2 0 c2) (src_empty (P := P) ⟨e, el.ht⟩ A2 c2 w)
  rw [← hxv, ← hy] at hrun
  have hdow : ∀ s1 x1, (dropO st1 q.2).ow s1 = some x1 → st1.ow s1 = some x1 := fun s1 x1 h1 => by
   cases hq2 : q.2 with
   | none => rw [hq2] at h1; exact h1
   | some s3 =>
    rw [hq2] at h1
    have h1 : upd st1.ow s3 none s1 = some x1 := h1
    by_cases e : s1 = s3
    ·subst e; rw [upd_same] at h1; cases h1
    ·rw [upd_ne _ _ e] at h1; exact h1
  rw [List.append_nil]
  refine ⟨_, w, _, hrun, Sim.put_ ((hS1.dropO q.2).newSite ((hff s hf).dropO _) (x := .osl k rows) (v := a.eval x) (F := FX) hT hFXh (fun s1 x1 h1 q1 h2 h3 => hFXl s1 x1 q1 (hdow s1 x1 h1) h2 h3)) hd ?_⟩
  intro _
  exact ⟨.inl rfl, by simp only [walkV, upd_same]⟩
 obtain ⟨b2, o2, c2, news, G, FY, hy, hnl, hnc, hone, hr2, hGd, hGY, hFYh, hFYl, hFYs⟩ := src_ok hS1 hq hry h0 el.hk hk2
 have hXY : ∀ q, FX q → ¬ FY q := fun q1 h1 h2 => by
  obtain ⟨s3, x3, h3, h4⟩ := hFYs q1 h2
  exact hFXl s3 x3 q1 h3 h1 h4
 obtain ⟨v', w', q0, ob0, hrun, hq0, hw0, hB, hone', hT'⟩ := app_core (ty := ty) el hT (fun q ob h => (hS1.hp q ob h).2.1) hFXh h0 hk2 hnl hnc hone hr2 hGd (fun m q hg hx => hXY q hx (hGY m q hg)) (fun m q hg => hFYh q (hGY m q hg)) hlen hby
 have hS2 := hS1.dropO q.2
 have hf2 : Fresh (dropO st1 q.2) s := (hff s hf).dropO _
 have hdow : ∀ s1 x1, (dropO st1 q.2).ow s1 = some x1 → st1.ow s1 = some x1 := fun s1 x1 h1 => by
  cases hq2 : q.2 with
  | none => rw [hq2] at h1; exact h1
  | some s3 =>
   rw [hq2] at h1
   have h1 : upd st1.ow s3 none s1 = some x1 := h1
   by_cases e : s1 = s3
   ·subst e; rw [upd_same] at h1; cases h1
   ·rw [upd_ne _ _ e] at h1; exact h1
 obtain ⟨g', hS', hov⟩ := hS2.newTree hf2 (A := fun q => FX q ∨ FY q) (F' := fun q => FX q ∨ q = q0 ∨ ∃ m, G m q) (fun q h => h.elim (hFXh q) (hFYh q)) (fun s1 x1 q1 h1 h2 h3 => by
  rcases h2 with h2 | h2
  ·exact hFXl s1 x1 q1 (hdow s1 x1 h1) h2 h3
  ·exact hFYl s1 x1 q1 h1 h2 h3) (hq0.elim (fun h => .inl (.inl h)) .inr) hw0 hB hT' (fun q h => by
  rcases h with h | h | ⟨m, h⟩
  ·exact .inl (.inl h)
  ·exact .inr h
  ·exact .inl (.inr (hGY m q h)))
 refine ⟨v', w', g', by rw [hy]; exact hrun, Sim.put_ hS' hd ?_⟩
 intro _
 exact ⟨.inl rfl, by simp only [walkV, hov]⟩
end
end Go.Proofs.YtgkohnjpnnofhaaGreat.Den
