/- slices.Delete of one rule, in a row of the call's own. -/
import Derived.Test.YtpjadjoekdcjiaaTable
import Derived.Test.YtpjadjoekdcjiaaQuiet
namespace Go.Proofs.Ytpjadjoekdcjiaa
open Go.RowKit
set_option linter.unusedSimpArgs false
set_option linter.unusedVariables false

/-- append within the capacity, onto a row that lies in one block: the cells that are appended may be the row's own -/
theorem wpList_append_in {P : Program} {w : World} {ops : Array Oper} {rest : List Oper} {o : Oper} {a : Act} {Q : Exit → Act → World → Prop} {t e k bytes : Nat} (el : Elem P t e k bytes) (hgd : o.guard = none) (s x : Operand)
    (ho : o.op = .call { callee := .builtin .append, args := #[s, x], argTypes := #[t, t] })
    (g off n cap : Nat) (hs : a.eval s = .slice (some ⟨g, off, none⟩) n cap) (ad : Addr) (m c : Nat) (news : List Value) (hx : a.eval x = .slice (some ad) m c) (hn : news.length = m * k)
    (hc : ∀ j u, news[j]? = some u → w.cell? (ad.add j) = some u) (h1 : ∀ u ∈ news, u.oneCell' = true) (hroom : n + m ≤ cap)
    (hspare : ∀ j, j < news.length → (w.cell? ⟨g, off + n * k + j, none⟩).isSome = true ∧ w.frozen? ⟨g, off + n * k + j, none⟩ = false)
    (h : wpList P ops Q rest (a.put o.dst (.slice (some ⟨g, off, none⟩) (n + m) cap)) (w.setCells g (off + n * k) news)) : wpList P ops Q (o :: rest) a w := by
  refine wpList_plain hgd fun K hK => ?_
  obtain ⟨i, z, hi, hz, hsize, hby, hzs⟩ := el.hi
  subst hsize
  have hr := run_append_room_cells (P := P) w t o.type e i el.ht hi g off n cap ad m c news hn hc h1 hroom (fun j hj => (hspare j hj).1) (fun j hj => (hspare j hj).2)
  unfold Oper.wp execOp
  simp only [ho, resolve, invoke, builtin, Sem.run_bind, Sem.run_pure, Result.andThen_ok, List.map_toArray, List.map_cons, List.map_nil, hs, hx, hr]
  exact hK _ _ h

set_option maxHeartbeats 2000000 in
/-- what Delete makes of memory: the rules behind are moved one place on, the last place is cleared -/
theorem delete_world {g cp base i : Nat} {l : List Rl} {w : World} (hi : i < l.length) (hb : base ≤ g) (hg : g < w.heap.size) (h : Rules w (some ⟨g, 0, none⟩) cp l) (hfz : ∀ t, w.frozen? ⟨g, t, none⟩ = false) :
    ∃ (news : List Value), news.length = (l.length - (i + 1)) * 6 ∧ (∀ u ∈ news, u.oneCell' = true) ∧ (∀ j, j < news.length → (w.cell? ⟨g, 0 + i * 6 + j, none⟩).isSome = true ∧ w.frozen? ⟨g, 0 + i * 6 + j, none⟩ = false) ∧
      (∀ j u, news[j]? = some u → w.cell? ((⟨g, (i + 1) * 6, none⟩ : Addr).add j) = some u) ∧
      (∀ ty c, (Builtin.clear_ #[38] ty #[.slice (some ⟨g, (l.length - 1) * 6, none⟩) 1 c]).run Try.prog (w.setCells g (0 + i * 6) news) = .ok (.tuple #[]) ((w.setCells g (0 + i * 6) news).setCells g ((l.length - 1) * 6) zrule)) ∧
      Rules ((w.setCells g (0 + i * 6) news).setCells g ((l.length - 1) * 6) zrule) (some ⟨g, 0, none⟩) cp (l.eraseIdx i) ∧ Below base w ((w.setCells g (0 + i * 6) news).setCells g ((l.length - 1) * 6) zrule) ∧
      (∀ t, ((w.setCells g (0 + i * 6) news).setCells g ((l.length - 1) * 6) zrule).frozen? ⟨g, t, none⟩ = false) := by
  have hle := h.le
  have hflat := RowC.flat h (by omega)
  obtain ⟨news, hnews⟩ : ∃ news, news = rflat (l.drop (i + 1)) := ⟨_, rfl⟩
  have hlen : news.length = (l.length - (i + 1)) * 6 := by rw [hnews, rflat_length, List.length_drop]
  have hsplit : l = l.take (i + 1) ++ l.drop (i + 1) := by simp
  have hF : rflat l = rflat (l.take (i + 1)) ++ news := by rw [hnews, ← rflat_append, ← hsplit]
  have hl1 : (rflat (l.take (i + 1))).length = (i + 1) * 6 := by rw [rflat_length, List.length_take]; congr 1; omega
  have hsome : ∀ t, t < l.length * 6 → (w.cell? ⟨g, t, none⟩).isSome = true := by
    intro t ht
    have : t < (rflat l).length := by rw [rflat_length]; exact ht
    rw [hflat t _ (List.getElem?_eq_getElem this)]; rfl
  have hsrc : ∀ t u, news[t]? = some u → w.cell? ((⟨g, (i + 1) * 6, none⟩ : Addr).add t) = some u := by
    intro t u hu
    rw [Addr.add_lit]
    refine hflat ((i + 1) * 6 + t) u ?_
    show (rflat l)[_]? = _
    rw [hF, List.getElem?_append_right (by omega), hl1, Nat.add_sub_cancel_left]
    exact hu
  have s2 : ∀ u ∈ news, u.oneCell' = true := by
    intro u hu
    rw [hnews] at hu
    obtain ⟨cs, hcs, hu⟩ := List.mem_flatten.1 hu
    exact rules_one _ cs hcs u hu
  have s3 : ∀ t, t < news.length → (w.cell? ⟨g, 0 + i * 6 + t, none⟩).isSome = true ∧ w.frozen? ⟨g, 0 + i * 6 + t, none⟩ = false := by
    intro t ht
    exact ⟨hsome _ (by omega), hfz _⟩
  have hcell1 : ∀ t, t < l.length * 6 → ((w.setCells g (0 + i * 6) news).cell? ⟨g, t, none⟩).isSome = true := by
    intro t ht; exact World.isSome_setCells g _ _ _ _ (hsome t ht)
  have hcl : ∀ ty c, (Builtin.clear_ #[38] ty #[.slice (some ⟨g, (l.length - 1) * 6, none⟩) 1 c]).run Try.prog (w.setCells g (0 + i * 6) news) = .ok (.tuple #[]) ((w.setCells g (0 + i * 6) news).setCells g ((l.length - 1) * 6) zrule) := fun ty c =>
    run_clear_rule _ ty g _ _ (fun j hj => hcell1 _ (by omega)) (fun j hj => by rw [World.frozen?_setCells]; exact hfz _)
  refine ⟨news, hlen, s2, s3, hsrc, hcl, ?_, below_setCells hb _ _ _ (below_setCells hb _ _ _ (Below.refl base w)), fun t => by rw [World.frozen?_setCells, World.frozen?_setCells]; exact hfz t⟩
  have hz6 : zrule.length = 6 := rfl
  have hl0 : (rflat (l.take i)).length = i * 6 := by rw [rflat_length, List.length_take]; congr 1; omega
  have hE : rflat (l.eraseIdx i) = rflat (l.take i) ++ news := by rw [List.eraseIdx_eq_take_drop_succ, rflat_append, hnews]
  have hF2 : ∀ t, t < i * 6 → (rflat l)[t]? = (rflat (l.take i))[t]? := by
    intro t ht
    have : rflat l = rflat (l.take i) ++ rflat (l.drop i) := by rw [← rflat_append, List.take_append_drop]
    rw [this, List.getElem?_append_left (by omega)]
  have hsz : g < ((w.setCells g (0 + i * 6) news).setCells g ((l.length - 1) * 6) zrule).heap.size := by
    have h1 := (below_setCells (B := g) (Nat.le_refl _) zrule ((l.length - 1) * 6) _ (below_setCells (Nat.le_refl _) news (0 + i * 6) _ (Below.refl g w))).size
    omega
  refine RowC.ofFlat (by rw [List.length_map]) (by rw [List.length_eraseIdx_of_lt hi]; omega) (cells6 _) hsz fun t u hu => ?_
  have htl : t < (rflat (l.eraseIdx i)).length := (List.getElem?_eq_some_iff.1 hu).1
  rw [hE, List.length_append, hl0, hlen] at htl
  have hu' : (rflat (l.eraseIdx i))[t]? = some u := hu
  rw [hE] at hu'
  rw [World.cell?_setCells_out g _ _ _ _ (fun _ _ => Or.inl (by simp; omega))]
  by_cases ht : t < i * 6
  · rw [World.cell?_setCells_out g _ _ _ _ (fun _ _ => Or.inl (by simp; omega))]
    rw [List.getElem?_append_left (by omega), ← hF2 t ht] at hu'
    exact hflat t u hu'
  · rw [List.getElem?_append_right (by omega), hl0] at hu'
    obtain ⟨hj, hje⟩ := List.getElem?_eq_some_iff.1 hu'
    have := World.cell?_setCells_in g news (0 + i * 6) w (fun j hj => (s3 j hj).1) (t - i * 6) hj
    rw [show 0 + i * 6 + (t - i * 6) = t by omega, hje] at this
    exact this

set_option maxRecDepth 100000 in
set_option maxHeartbeats 1600000 in
theorem tdelete_any (g cp base : Nat) (l : List Rl) (i : Nat) (hi : i < l.length) (w : World) (hb : base ≤ g) (hg : g < w.heap.size) (h : Rules w (some ⟨g, 0, none⟩) cp l) (hfz : ∀ t, w.frozen? ⟨g, t, none⟩ = false) (hl : l.length ≤ 65536) :
    Calls Try.prog 33 #[.slice (some ⟨g, 0, none⟩) l.length cp, .int .i64 i, .int .i64 (i + 1)] w fun e w' => e = .returned (.slice (some ⟨g, 0, none⟩) (l.length - 1) cp) ∧ Rules w' (some ⟨g, 0, none⟩) cp (l.eraseIdx i) ∧ Below base w w' := by
  have hle := h.le
  have H := Lib.hid h
  have HF := Lib.hid hfz
  clear h hfz
  have hn1 : ((i : Int) == (i : Int) + 1) = false := by rw [beq_eq_false_iff_ne]; omega
  go_enter Try.func33, Try.ntmps33
  go_wp2_with fail
  refine wp_region_tail 6 (by kernel_rfl) (by kernel_rfl) ?_; simp only [List.take_succ_cons, List.take_zero, List.drop_succ_cons, List.drop_zero]
  repeat (go_big_quiet_step (fail))
  refine wpQuiet_nil ?_
  intro w2 hb2
  have hsz := hb2.size
  have HW := Lib.hid (delete_world (base := base) (cp := cp) (g := g) (w := w2) hi hb (by omega) (H.out.below hb2) (fun t => (hb2.frozen (p := ⟨g, t, none⟩) hg).trans (HF.out t)))
  obtain ⟨news, hn, h1, hsp, hsrc, hcl, hR, hB, hFz⟩ := HW.out
  obtain ⟨A, hA, hA2⟩ : ∃ A : Addr, (if cp = i + 1 then (some ⟨g, 0, none⟩ : Option Addr) else some ⟨g, (i + 1) * 6, none⟩) = some A ∧ (∀ j u, news[j]? = some u → w2.cell? (A.add j) = some u) := by
    by_cases hc : cp = i + 1
    · refine ⟨⟨g, 0, none⟩, by simp [hc], fun t u hu => ?_⟩
      have h0 : news.length = 0 := by rw [hn]; omega
      rw [List.length_eq_zero_iff.1 h0] at hu
      simp at hu
    · exact ⟨⟨g, (i + 1) * 6, none⟩, by simp [hc], hsrc⟩
  have hlen : i + (l.length - (i + 1)) = l.length - 1 := by omega
  refine wpList_append_in el_rule rfl (.tmp 22) (.tmp 25) rfl g 0 i cp rfl A (l.length - (i + 1)) (cp - (i + 1)) news (by rw [← hA]; rfl) hn hA2 h1 (by omega) hsp ?_
  rw [hlen]
  have HC := Lib.hid hcl
  have HR := Lib.hid hR
  have HB := Lib.hid (hb2.mono (Nat.le_trans hb (Nat.le_of_lt hg)) |>.trans hB)
  clear hcl hR hB hFz hsp hsrc h1 hn hA2 hA HW hlen
  generalize w2.setCells g (0 + i * 6) news = W1 at *
  have h1 : l.length - (l.length - 1) = 1 := by omega
  have hcl : ∀ ty c, (Builtin.clear_ #[38] ty #[.slice (some ⟨g, (l.length - 1) * 6, none⟩) (l.length - (l.length - 1)) c]).run Try.prog W1 = .ok (.tuple #[]) (W1.setCells g ((l.length - 1) * 6) zrule) := fun ty c => by rw [h1]; exact HC.out ty c
  clear h1
  go_wp2_with fail
  all_goals go_ret
  all_goals first | exact ⟨rfl, HR.out, HB.out⟩ | (have h : cp = i + 1 := (by assumption); subst h; exact ⟨rfl, HR.out, HB.out⟩)
end Go.Proofs.Ytpjadjoekdcjiaa
