/-
  The shadow machine, part Wa: walking code by hand: states that grow, blocks of the call's own, operations one by one.
-/
import Derived.Test.YthfijonopinghaaGreatDoorShZ
set_option linter.unusedSimpArgs false
set_option linter.unusedVariables false
namespace Go.Sh
section
variable {E : Env}
/-! ### States that grow: nothing that was there is turned -/
structure Ext (σ σ' : SSt) : Prop where
  next : σ.next ≤ σ'.next
  same : ∀ k, k < σ.next → σ'.heap.get k = σ.heap.get k
  mark : σ'.mark = σ.mark
  mods : σ'.mods = σ.mods
  wf : WF σ'
theorem Ext.refl {σ : SSt} (h : WF σ) : Ext σ σ := ⟨Nat.le_refl _, fun _ _ => rfl, rfl, rfl, h⟩
theorem Ext.trans {σ σ1 σ2 : SSt} (h : Ext σ σ1) (k : Ext σ1 σ2) : Ext σ σ2 :=
  ⟨Nat.le_trans h.next k.next, fun i hi => (k.same i (Nat.lt_of_lt_of_le hi h.next)).trans (h.same i hi), k.mark.trans h.mark, k.mods.trans h.mods, k.wf⟩
/-- What could be read can be read. -/
theorem Ext.rd {σ σ' : SSt} (hw : WF σ) (h : Ext σ σ') {a : SA} {i : Nat} {v : SV} (hv : rd E σ a i = some v) : rd E σ' a i = some v := by
  unfold Go.Sh.rd at hv ⊢
  cases hb : a.base with
  | true => rw [hb] at hv; exact hv
  | false =>
    rw [hb] at hv
    simp only at hv ⊢
    have hlt : a.blk < σ.next := by
      rcases Nat.lt_or_ge a.blk σ.next with h1 | h1
      · exact h1
      · rw [hw.2 _ h1] at hv; cases hv
    rw [h.same _ hlt]
    exact hv
theorem rdL_mono {σ σ' : SSt} (h : ∀ a i v, rd E σ a i = some v → rd E σ' a i = some v) {a : SA} : ∀ (n i : Nat) (vs : List SV), rdL E σ a i n = some vs → rdL E σ' a i n = some vs
  | 0, _, _, hv => hv
  | n + 1, i, vs, hv => by
    simp only [rdL] at hv ⊢
    cases h1 : rd E σ a i with
    | none => rw [h1] at hv; cases hv
    | some v =>
      rw [h1] at hv
      rw [h _ _ _ h1]
      simp only at hv ⊢
      cases h2 : rdL E σ a (i + 1) n with
      | none => rw [h2] at hv; cases hv
      | some ws =>
        rw [h2] at hv
        rw [rdL_mono h n (i + 1) ws h2]
        exact hv
theorem Ext.rdL {σ σ' : SSt} (hw : WF σ) (h : Ext σ σ') {a : SA} {n i : Nat} {vs : List SV} (hv : rdL E σ a i n = some vs) : rdL E σ' a i n = some vs := rdL_mono (fun _ _ _ => h.rd hw) n i vs hv

/-! ### Blocks of the call's own -/
/-- What is known of a block: its cells; or all of it. -/
inductive Ow where
  | cs (l : List SV)
  | ob (o : SObj)
def Is (σ : SSt) (k : Nat) : Ow → Prop
  | .cs l => ∃ t e, σ.heap.get k = some (.cells t l.length e) ∧ ∀ i, t.get i = l[i]?
  | .ob o => σ.heap.get k = some o
theorem Is.congr {σ σ' : SSt} {k : Nat} {d : Ow} (h : Is σ k d) (he : σ'.heap.get k = σ.heap.get k) : Is σ' k d := by
  cases d with
  | cs l => obtain ⟨t, e, h1, h2⟩ := h; exact ⟨t, e, he.trans h1, h2⟩
  | ob o => exact he.trans h
/-- From the state at the entry: it has grown, and of the call's own blocks it is known what they hold. -/
structure St (σ0 σ : SSt) (L : List (Nat × Ow)) : Prop where
  wf0 : WF σ0
  ext : Ext σ0 σ
  own : ∀ p, p ∈ L → σ0.next ≤ p.1 ∧ p.1 < σ.next ∧ Is σ p.1 p.2
  apart : L.Pairwise fun p q => p.1 ≠ q.1
theorem St.init {σ : SSt} (h : WF σ) : St σ σ [] := ⟨h, Ext.refl h, fun _ h => (by cases h), .nil⟩
section
variable {σ0 σ : SSt} {L : List (Nat × Ow)} (S : St σ0 σ L)
include S
theorem St.wf : WF σ := S.ext.wf
theorem St.rd {a : SA} {i : Nat} {v : SV} (hv : Go.Sh.rd E σ0 a i = some v) : Go.Sh.rd E σ a i = some v := S.ext.rd S.wf0 hv
theorem St.rdL {a : SA} {n i : Nat} {vs : List SV} (hv : Go.Sh.rdL E σ0 a i n = some vs) : Go.Sh.rdL E σ a i n = some vs := S.ext.rdL S.wf0 hv
theorem St.call {σ1 : SSt} (h : Ext σ σ1) : St σ0 σ1 L :=
  ⟨S.wf0, S.ext.trans h, fun p hp => by
    obtain ⟨h1, h2, h3⟩ := S.own p hp
    exact ⟨h1, Nat.lt_of_lt_of_le h2 h.next, h3.congr (h.same _ h2)⟩, S.apart⟩
theorem St.sub {L' : List (Nat × Ow)} (h : L'.Sublist L) : St σ0 σ L' := ⟨S.wf0, S.ext, fun p hp => S.own p (h.mem hp), S.apart.sublist h⟩
theorem St.alloc {o : SObj} {d : Ow} (hd : ∀ σ' : SSt, σ'.heap.get σ.next = some o → Is σ' σ.next d) : St σ0 (σ.alloc o) ((σ.next, d) :: L) := by
  have hget : ∀ k, (σ.alloc o).heap.get k = if k = σ.next then some o else σ.heap.get k := fun k => T.get_set _ _ _ _
  refine ⟨S.wf0, ⟨Nat.le_trans S.ext.next (Nat.le_succ _), fun k hk => ?_, S.ext.mark, S.ext.mods, ⟨Nat.le_trans S.wf.1 (Nat.le_succ _), fun k hk => ?_⟩⟩, fun p hp => ?_, ?_⟩
  · rw [hget, if_neg (by have := S.ext.next; omega)]
    exact S.ext.same k hk
  · have hk : σ.next + 1 ≤ k := hk
    rw [hget, if_neg (by omega)]
    exact S.wf.2 k (by omega)
  · rcases List.mem_cons.1 hp with rfl | hp
    · exact ⟨S.ext.next, Nat.lt_succ_self _, hd _ (by rw [hget, if_pos rfl])⟩
    · obtain ⟨h1, h2, h3⟩ := S.own p hp
      exact ⟨h1, Nat.lt_succ_of_lt h2, h3.congr (by rw [hget, if_neg (by omega)])⟩
  · refine List.pairwise_cons.2 ⟨fun q hq => ?_, S.apart⟩
    have := (S.own q hq).2.1
    simp only
    omega
theorem St.new (e : TypeId) (cs : List SV) : St σ0 (σ.newCells e cs) ((σ.next, .cs cs) :: L) := S.alloc fun _ h => ⟨_, e, h, fun i => tget_putList0 cs i⟩
theorem St.ob {k : Nat} {o : SObj} (h : (k, Ow.ob o) ∈ L) : σ.heap.get k = some o := (S.own _ h).2.2
theorem St.load {k o : Nat} {cs : List SV} {v : SV} (h : (k, .cs cs) ∈ L) (hv : cs[o]? = some v) : Go.Sh.rd E σ ⟨false, k, o⟩ 0 = some v := by
  obtain ⟨_, _, t, e, h3, h4⟩ := S.own _ h
  simp only at h3
  unfold Go.Sh.rd
  simp only [h3, Nat.add_zero, h4, hv]
theorem St.loadL {k o : Nat} {cs : List SV} (h : (k, .cs cs) ∈ L) : ∀ (n i : Nat), o + i + n ≤ cs.length → Go.Sh.rdL E σ ⟨false, k, o⟩ i n = some ((cs.drop (o + i)).take n) := by
  obtain ⟨_, _, t, e, h3, h4⟩ := S.own _ h
  simp only at h3
  intro n
  induction n with
  | zero => intro i _; simp [Go.Sh.rdL]
  | succ n ih =>
    intro i hi
    have h5 : Go.Sh.rd E σ ⟨false, k, o⟩ i = some (cs[o + i]'(by omega)) := by
      unfold Go.Sh.rd
      simp only [h3, h4]
      exact List.getElem?_eq_getElem (by omega)
    simp only [Go.Sh.rdL, h5, ih (i + 1) (by omega)]
    have h6 : cs.drop (o + i) = cs[o + i]'(by omega) :: cs.drop (o + (i + 1)) := List.drop_eq_getElem_cons (by omega)
    rw [h6, List.take_succ_cons]
/-- A block of the call's own is turned. -/
theorem St.put {k : Nat} {d d' : Ow} {o : SObj} {L1 L2 : List (Nat × Ow)} (hL : L = L1 ++ (k, d) :: L2) (hd : ∀ σ' : SSt, σ'.heap.get k = some o → Is σ' k d') : St σ0 (σ.put k (some o)) (L1 ++ (k, d') :: L2) := by
  subst hL
  obtain ⟨hk1, hk2, _⟩ := S.own (k, d) (by simp)
  simp only at hk1 hk2
  have hget : ∀ j, (σ.put k (some o)).heap.get j = if j = k then some o else σ.heap.get j := fun j => T.get_set _ _ _ _
  refine ⟨S.wf0, ⟨S.ext.next, fun j hj => ?_, S.ext.mark, ?_, ⟨S.wf.1, fun j hj => ?_⟩⟩, fun p hp => ?_, ?_⟩
  · rw [hget, if_neg (by omega)]; exact S.ext.same j hj
  · show (match Nat.blt k σ.mark with | true => k :: σ.mods | false => σ.mods) = _
    rw [bltF (by rw [S.ext.mark]; have := S.wf0.1; omega)]
    exact S.ext.mods
  · have hj : σ.next ≤ j := hj
    rw [hget, if_neg (by omega)]; exact S.wf.2 j hj
  · rcases List.mem_append.1 hp with hp | hp
    · obtain ⟨g1, g2, g3⟩ := S.own p (List.mem_append_left _ hp)
      have hne : p.1 ≠ k := (List.pairwise_append.1 S.apart).2.2 p hp (k, d) List.mem_cons_self
      exact ⟨g1, g2, g3.congr (by rw [hget, if_neg hne])⟩
    · rcases List.mem_cons.1 hp with rfl | hp
      · exact ⟨hk1, hk2, hd _ (by rw [hget, if_pos rfl])⟩
      · obtain ⟨g1, g2, g3⟩ := S.own p (List.mem_append_right _ (List.mem_cons_of_mem _ hp))
        have hne : k ≠ p.1 := (List.pairwise_cons.1 (List.pairwise_append.1 S.apart).2.1).1 p hp
        exact ⟨g1, g2, g3.congr (by rw [hget, if_neg (Ne.symm hne)])⟩
  · refine List.pairwise_append.2 ⟨(List.pairwise_append.1 S.apart).1, ?_, fun p hp q hq => ?_⟩
    · exact List.pairwise_cons.2 ⟨(List.pairwise_cons.1 (List.pairwise_append.1 S.apart).2.1).1, (List.pairwise_cons.1 (List.pairwise_append.1 S.apart).2.1).2⟩
    · have h5 := (List.pairwise_append.1 S.apart).2.2 p hp
      rcases List.mem_cons.1 hq with rfl | hq
      · exact h5 (k, d) List.mem_cons_self
      · exact h5 q (List.mem_cons_of_mem _ hq)
/-- A block of the call's own is let go. -/
theorem St.kill {k : Nat} {d : Ow} {L2 : List (Nat × Ow)} (hL : L = (k, d) :: L2) : St σ0 (σ.put k none) L2 := by
  subst hL
  obtain ⟨hk1, hk2, _⟩ := S.own (k, d) (by simp)
  simp only at hk1 hk2
  have hget : ∀ j, (σ.put k none).heap.get j = if j = k then none else σ.heap.get j := fun j => T.get_set _ _ _ _
  refine ⟨S.wf0, ⟨S.ext.next, fun j hj => ?_, S.ext.mark, ?_, ⟨S.wf.1, fun j hj => ?_⟩⟩, fun p hp => ?_, (List.pairwise_cons.1 S.apart).2⟩
  · rw [hget, if_neg (by omega)]; exact S.ext.same j hj
  · show (match Nat.blt k σ.mark with | true => k :: σ.mods | false => σ.mods) = _
    rw [bltF (by rw [S.ext.mark]; have := S.wf0.1; omega)]
    exact S.ext.mods
  · have hj : σ.next ≤ j := hj
    rw [hget]
    split
    · rfl
    · exact S.wf.2 j hj
  · obtain ⟨g1, g2, g3⟩ := S.own p (List.mem_cons_of_mem _ hp)
    have hne : k ≠ p.1 := (List.pairwise_cons.1 S.apart).1 p hp
    exact ⟨g1, g2, g3.congr (by rw [hget, if_neg (Ne.symm hne)])⟩
/-- A block of the call's own is written. -/
theorem St.store {k o : Nat} {cs vs : List SV} {L1 L2 : List (Nat × Ow)} (hL : L = L1 ++ (k, .cs cs) :: L2) (ho : o + vs.length ≤ cs.length) (h1 : vs.all SV.one = true) :
    ∃ ob, wr σ ⟨false, k, o⟩ vs = some (σ.put k (some ob)) ∧ σ0.next ≤ k ∧ St σ0 (σ.put k (some ob)) (L1 ++ (k, .cs (cs.take o ++ vs ++ cs.drop (o + vs.length))) :: L2) := by
  obtain ⟨hk1, hk2, t, e, h3, h4⟩ := S.own (k, .cs cs) (by rw [hL]; simp)
  simp only at h3 hk1 hk2
  have hlen : (cs.take o ++ vs ++ cs.drop (o + vs.length)).length = cs.length := by simp; omega
  refine ⟨.cells (t.putList o vs) cs.length e, by unfold wr; simp only [h3]; rw [if_pos (by simp [ho, h1])], hk1, S.put hL fun σ' hs => ⟨t.putList o vs, e, by rw [hlen]; exact hs, fun i => ?_⟩⟩
  rw [T.get_putList]
  by_cases hi : o ≤ i ∧ i < o + vs.length
  · rw [if_pos hi, List.append_assoc, List.getElem?_append_right (by simp; omega), List.getElem?_append_left (by simp; omega)]
    congr 1
    simp; omega
  · rw [if_neg hi, h4]
    rcases Nat.lt_or_ge i o with h5 | h5
    · rw [List.append_assoc, List.getElem?_append_left (by simp; omega)]
      simp [h5]
    · rw [List.getElem?_append_right (by simp; omega)]
      simp only [List.length_append, List.length_take, List.getElem?_drop]
      congr 1
      omega
end
end
end Go.Sh
