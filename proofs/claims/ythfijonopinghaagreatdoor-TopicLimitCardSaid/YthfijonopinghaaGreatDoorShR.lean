/-
  The shadow machine, part R: regions without order: one operation after another, in whatever order.
-/
import Derived.Test.YthfijonopinghaaGreatDoorShQ
set_option linter.unusedSimpArgs false
set_option linter.unusedVariables false
namespace Go.Sh
section
variable {C : Cx} {N n : Nat} {ops : Array Oper} {code : CodeF} {call : CallF} {so : Nat → SOper} {bm : Nat → Nat} {st : Nat → DS} {v : Nat → SV} {out : Nat → Option SSt} {ρ0 ρ : Ren} {w0 w : World} {ra0 ra : Act} {listed : Array Bool}

/-- The temporaries after one operation more. -/
theorem DInv.putTm {i : Nat} {o : Oper} (hi : i < n) (hnl : ¬ LS n listed i) (hn : n = ops.size) (ho : ops[i]? = some o) (hso : ∀ i o, ops[i]? = some o → compOper C.P N ops o = some (so i)) (hbm : ∀ i, bm i = (Region.before ops).getD i 0) (hap : apartAll ops (Region.before ops) = true)
    (I : DInv C N n so bm st v out ρ0 w0 ra0 listed ρ w ra) {ρ' : Ren} {w' : World} (hs : ∀ b p, World.shp w b = some p → World.shp w' b = some p) (hρ : ∀ k p, ρ k = some p → ρ' k = some p) {rv : Value} (hv : VR C.P C.B (World.shp w') ρ' (v i) rv) :
    ∀ t, (∃ j, LS n (listed.setIfInBounds i true) j ∧ (so j).dst = some t ∧ (∀ j', LS n (listed.setIfInBounds i true) j' → (so j').dst = some t → j' ≤ j) ∧ VR C.P C.B (World.shp w') ρ' (v j) ((ra.put o.dst rv).tmps.getD t undef)) ∨
      ((∀ j, LS n (listed.setIfInBounds i true) j → (so j).dst ≠ some t) ∧ VR C.P C.B (World.shp w') ρ' (getT (st 0).a.tm t) ((ra.put o.dst rv).tmps.getD t undef)) := by
  intro t
  have hls := fun j => LS.set (j := j) I.size hi
  have hdst : ∀ j x, ops[j]? = some x → x.dst = (so j).dst := fun j x hx => (compOper_parts (hso j x hx)).2.1.symm
  have hd := hdst i o ho
  by_cases e : o.dst = some t
  · left
    have hlt : t < ra.tmps.size := Nat.lt_of_lt_of_le ((compOper_parts (hso i o ho)).2.2 t e) I.tmps
    refine ⟨i, (hls i).2 (.inr rfl), by rw [← hd]; exact e, fun j' hj' hdj => ?_, ?_⟩
    · rcases (hls j').1 hj' with hj | hj
      · rcases Nat.lt_or_ge i j' with h | h
        · have hx : ∃ x, ops[j']? = some x := ⟨ops[j']'(by have := hj.1; omega), by simp⟩
          obtain ⟨x, hx⟩ := hx
          rcases apartAll_spec hap ho hx h with h1 | h1
          · rw [← hbm] at h1
            exact absurd (I.closed j' hj i h1) hnl
          · exact absurd (by rw [hdst j' x hx]; exact hdj) ((Oper.apart_spec h1).2.1 t e)
        · exact h
      · omega
    · have : (ra.put o.dst rv).tmps.getD t undef = rv := by rw [e]; simp [Act.put, Array.getD_eq_getD_getElem?, hlt]
      rw [this]; exact hv
  · have hget : (ra.put o.dst rv).tmps.getD t undef = ra.tmps.getD t undef := by
      cases hq : o.dst with
      | none => rfl
      | some d =>
        have hne : d ≠ t := fun h => by subst h; exact e hq
        simp [Act.put, Array.getD_eq_getD_getElem?, Array.getElem?_setIfInBounds_ne hne]
    rw [hget]
    have hni : (so i).dst ≠ some t := by rw [← hd]; exact e
    rcases I.tm t with ⟨j, h1, h2, h3, h4⟩ | ⟨h1, h2⟩
    · refine .inl ⟨j, (hls j).2 (.inl h1), h2, fun j' hj' hdj => ?_, h4.mono hs hρ⟩
      rcases (hls j').1 hj' with hj | hj
      · exact h3 j' hj hdj
      · subst hj; exact absurd hdj hni
    · refine .inr ⟨fun j hj => ?_, h2.mono hs hρ⟩
      rcases (hls j).1 hj with hj | hj
      · exact h1 j hj
      · subst hj; exact hni
theorem put_size (a : Act) (dst : Option Tmp) (rv : Value) : (a.put dst rv).tmps.size = a.tmps.size := by cases dst <;> simp [Act.put]
theorem put_defers (a : Act) (dst : Option Tmp) (rv : Value) : (a.put dst rv).defers = a.defers := by cases dst <;> rfl
theorem DInv.closed_set {i : Nat} (hi : i < n) (hb : ∀ j, (bm i).testBit j = true → LS n listed j) (I : DInv C N n so bm st v out ρ0 w0 ra0 listed ρ w ra) :
    ∀ j, LS n (listed.setIfInBounds i true) j → ∀ x, (bm j).testBit x = true → LS n (listed.setIfInBounds i true) x := by
  intro j hj x hx
  refine (LS.set I.size hi).2 (.inl ?_)
  rcases (LS.set I.size hi).1 hj with h | h
  · exact I.closed j h x hx
  · subst h; exact hb x hx
/-- One that touches no block. -/
theorem DInv.still {i : Nat} {o : Oper} (hi : i < n) (hnl : ¬ LS n listed i) (hb : ∀ j, (bm i).testBit j = true → LS n listed j) (hn : n = ops.size) (ho : ops[i]? = some o) (hout : out i = none) (hso : ∀ i o, ops[i]? = some o → compOper C.P N ops o = some (so i)) (hbm : ∀ i, bm i = (Region.before ops).getD i 0)
    (hap : apartAll ops (Region.before ops) = true) (I : DInv C N n so bm st v out ρ0 w0 ra0 listed ρ w ra) {rv : Value} (hv : VR C.P C.B (World.shp w) ρ (v i) rv) : DInv C N n so bm st v out ρ0 w0 ra0 (listed.setIfInBounds i true) ρ w (ra.put o.dst rv) := by
  have hls := fun j => LS.set (j := j) I.size hi
  have hnt : ∀ k, ¬ touch st out i k := fun k h => by obtain ⟨σ1, h1, _⟩ := h; rw [hout] at h1; cases h1
  refine ⟨by simpa using I.size, I.closed_set hi hb, I.putTm hi hnl hn ho hso hbm hap (fun _ _ h => h) (fun _ _ h => h) hv, by rw [put_size]; exact I.tmps, by rw [put_defers]; exact I.defers, ?_, I.ext, I.fr, fun k hk => ?_⟩
  · obtain ⟨σS, h1, h2, h3⟩ := I.heap
    refine ⟨σS, fun k => ?_, h2, h3⟩
    rcases h1 k with ⟨j, σ1, h4, h5, h6, h7, h8⟩ | ⟨h4, h5⟩
    · refine .inl ⟨j, σ1, (hls j).2 (.inl h4), h5, h6, fun j' hj' ht => ?_, h8⟩
      rcases (hls j').1 hj' with hj | hj
      · exact h7 j' hj ht
      · subst hj; exact absurd ht (hnt k)
    · refine .inr ⟨fun j hj => ?_, h5⟩
      rcases (hls j).1 hj with hj | hj
      · exact h4 j hj
      · subst hj; exact hnt k
  · obtain ⟨j, σ1, h1, h2⟩ := I.only k hk
    exact ⟨j, σ1, (hls j).2 (.inl h1), h2⟩
theorem Fr.trans {ρ ρ1 : Ren} {σ σ1 : SSt} {w w1 w2 : World} (h : Fr ρ σ w w1) (k : Fr ρ1 σ1 w1 w2) (himg : ∀ j o off b, σ1.heap.get j = some o → ρ1 j = some (b, off) → w.heap.size ≤ b ∨ ∃ k0 o0 off0, σ.heap.get k0 = some o0 ∧ ρ k0 = some (b, off0)) : Fr ρ σ w w2 := {
    os := k.os.trans h.os
    tape := k.tape.trans h.tape
    output := k.output.trans h.output
    size := Nat.le_trans h.size k.size
    same := fun b hb hn => by
      rw [k.same b (Nat.lt_of_lt_of_le hb h.size) ?_]
      · exact h.same b hb hn
      · intro i o off hg hr
        rcases himg i o off b hg hr with h1 | ⟨k0, o0, off0, h1, h2⟩
        · omega
        · exact hn k0 o0 off0 h1 h2
    shape := fun b p hp => k.shape b p (h.shape b p hp) }
/-- One that does. -/
theorem DInv.moved {i : Nat} {o : Oper} {σ1 : SSt} (hi : i < n) (hnl : ¬ LS n listed i) (hb : ∀ j, (bm i).testBit j = true → LS n listed j) (hn : n = ops.size) (ho : ops[i]? = some o) (hout : out i = some σ1) (hso : ∀ i o, ops[i]? = some o → compOper C.P N ops o = some (so i)) (hbm : ∀ i, bm i = (Region.before ops).getD i 0)
    (hap : apartAll ops (Region.before ops) = true) (R : Run C.E code call n so bm st v out) (I : DInv C N n so bm st v out ρ0 w0 ra0 listed ρ w ra) {σS : SSt}
    (hS : ∀ k, (∃ i σ1, LS n listed i ∧ out i = some σ1 ∧ touch st out i k ∧ (∀ j, LS n listed j → touch st out j k → j ≤ i) ∧ σS.heap.get k = σ1.heap.get k) ∨ ((∀ i, LS n listed i → ¬ touch st out i k) ∧ σS.heap.get k = (st 0).σ.heap.get k))
    (himg : ∀ k o b off, σS.heap.get k = some o → ρ k = some (b, off) → w0.heap.size ≤ b ∨ ∃ k0 o0 off0, (st 0).σ.heap.get k0 = some o0 ∧ ρ0 k0 = some (b, off0)) (hsim : Sim C ρ σS w)
    {σv σ1v : SSt} (hview : ∀ k o, σv.heap.get k = some o → σS.heap.get k = some o) (htv : ∀ k, touch st out i k → σ1v.heap.get k = σ1.heap.get k) (hsame : ∀ k, ¬ touch st out i k → ∀ o, σv.heap.get k = some o → σ1v.heap.get k = some o) (hnx0 : σv.next = (st i).σ.next) (hnx1 : σ1v.next = σ1.next)
    {ρ' : Ren} {w' : World} (hok : Ok C ρ σv w ρ' σ1v w') {rv : Value} (hv : VR C.P C.B (World.shp w') ρ' (v i) rv) :
    DInv C N n so bm st v out ρ0 w0 ra0 (listed.setIfInBounds i true) ρ' w' (ra.put o.dst rv) := by
  have hls := fun j => LS.set (j := j) I.size hi
  -- the heap then
  let r : Rc := ⟨i, (st i).σ.next, σ1.next, σ1.mods⟩
  have htch : ∀ k, r.tch k ↔ touch st out i k := fun k => ⟨fun h => ⟨σ1, hout, h⟩, fun ⟨σ2, h1, h2⟩ => by rw [hout] at h1; cases h1; exact h2⟩
  let σN : SSt := { σS with heap := back σ1v.heap σS.heap r }
  have hN1 : ∀ k, touch st out i k → σN.heap.get k = σ1v.heap.get k := fun k hk => by
    have := back_get σ1v.heap σS.heap r k
    rw [if_pos ((htch k).2 hk)] at this
    exact this
  have hN2 : ∀ k, ¬ touch st out i k → σN.heap.get k = σS.heap.get k := fun k hk => by
    have := back_get σ1v.heap σS.heap r k
    rw [if_neg (fun h => hk ((htch k).1 h))] at this
    exact this
  -- a live block of the new heap: the operation's, or one that it did not see or touch
  have hlive : ∀ k o, σN.heap.get k = some o → σ1v.heap.get k = some o ∨ (σS.heap.get k = some o ∧ ¬ touch st out i k ∧ σv.heap.get k = none) := by
    intro k o hg
    by_cases ht : touch st out i k
    · left; rw [← hN1 k ht]; exact hg
    · rw [hN2 k ht] at hg
      cases hvk : σv.heap.get k with
      | none => exact .inr ⟨hg, ht, rfl⟩
      | some o2 =>
        have h1 := hview k o2 hvk
        rw [hg] at h1
        cases h1
        exact .inl (hsame k ht _ hvk)
  -- such a block's own place is as it was
  have hrest : ∀ k o, σS.heap.get k = some o → σv.heap.get k = none → ∀ b off, ρ k = some (b, off) → w'.heap[b]? = w.heap[b]? := by
    intro k o hg hvk b off hr
    obtain ⟨b', off', h1, h2, h3⟩ := hsim.objs k o hg
    rw [hr] at h1
    cases h1
    refine hok.fr.same b h3.lt fun k' o' f hg' hr' => ?_
    have := hsim.inj k k' o o' b off f hg (hview k' o' hg') hr hr'
    subst this
    rw [hvk] at hg'
    cases hg'
  have hfr : Fr ρ0 (st 0).σ w0 w' := by
    refine I.fr.trans (ρ1 := ρ) (σ1 := σv) hok.fr fun j o off b hg hr => himg j o b off (hview j o hg) hr
  refine ⟨by simpa using I.size, I.closed_set hi hb, I.putTm hi hnl hn ho hso hbm hap hok.fr.shape hok.ext hv, by rw [put_size]; exact I.tmps, by rw [put_defers]; exact I.defers, ⟨σN, fun k => ?_, fun k o b off hg hr => ?_, ⟨fun k o hg => ?_, fun k k' o o' b f f' hg hg' hr hr' => ?_, hok.sim.base, hok.sim.size⟩⟩,
    fun k p h => hok.ext k p (I.ext k p h), hfr, fun k hk => ?_⟩
  · by_cases ht : touch st out i k
    · refine .inl ⟨i, σ1, (hls i).2 (.inr rfl), hout, ht, fun j hj htj => ?_, (hN1 k ht).trans (htv k ht)⟩
      rcases (hls j).1 hj with hj | hj
      · rcases Nat.lt_or_ge i j with h | h
        · exact absurd (I.closed j hj i (R.seen hj.1 htj i h ht)) hnl
        · exact h
      · omega
    · rw [hN2 k ht]
      rcases hS k with ⟨j, σ2, h4, h5, h6, h7, h8⟩ | ⟨h4, h5⟩
      · refine .inl ⟨j, σ2, (hls j).2 (.inl h4), h5, h6, fun j' hj' ht' => ?_, h8⟩
        rcases (hls j').1 hj' with hj | hj
        · exact h7 j' hj ht'
        · subst hj; exact absurd ht' ht
      · refine .inr ⟨fun j hj => ?_, h5⟩
        rcases (hls j).1 hj with hj | hj
        · exact h4 j hj
        · subst hj; exact ht
  · rcases hlive k o hg with h1 | ⟨h1, h2, h3⟩
    · rcases hok.img k o b off h1 hr with h4 | ⟨k0, o0, off0, h4, h5⟩
      · exact .inl (Nat.le_trans I.fr.size h4)
      · exact himg k0 o0 b off0 (hview k0 o0 h4) h5
    · obtain ⟨b', off', h4, _, h5⟩ := hsim.objs k o h1
      have h6 := hok.ext _ _ h4
      rw [hr] at h6
      cases h6
      exact himg k o b off h1 h4
  · rcases hlive k o hg with h1 | ⟨h1, h2, h3⟩
    · exact hok.sim.objs k o h1
    · obtain ⟨b, off, h4, h5, h6⟩ := hsim.objs k o h1
      exact ⟨b, off, hok.ext _ _ h4, h5, h6.mono hok.fr.shape hok.ext (hrest k o h1 h3 b off h4)⟩
  · -- no two in one place
    have mixed : ∀ {k k' : Nat} {o o' : SObj} {b f f' : Nat}, σ1v.heap.get k = some o → (σS.heap.get k' = some o' ∧ ¬ touch st out i k' ∧ σv.heap.get k' = none) → ρ' k = some (b, f) → ρ' k' = some (b, f') → False := by
      intro k k' o o' b f f' h1 h2 hr hr'
      obtain ⟨h2, h3, h4⟩ := h2
      obtain ⟨b', off', h5, _, h6⟩ := hsim.objs k' o' h2
      have h7 := hok.ext _ _ h5
      rw [hr'] at h7
      cases h7
      rcases hok.img k o b f h1 hr with h8 | ⟨k0, o0, off0, h8, h9⟩
      · have := h6.lt; omega
      · have := hsim.inj k0 k' o0 o' b off0 f' (hview k0 o0 h8) h2 h9 h5
        subst this
        rw [h4] at h8
        cases h8
    rcases hlive k o hg with h1 | h1
    · rcases hlive k' o' hg' with h2 | h2
      · exact hok.sim.inj k k' o o' b f f' h1 h2 hr hr'
      · exact (mixed h1 h2 hr hr').elim
    · rcases hlive k' o' hg' with h2 | h2
      · exact (mixed h2 h1 hr' hr).elim
      · obtain ⟨b1, f1, h5, _⟩ := hsim.objs k o h1.1
        obtain ⟨b2, f2, h6, _⟩ := hsim.objs k' o' h2.1
        have h7 := hok.ext _ _ h5
        have h8 := hok.ext _ _ h6
        rw [hr] at h7
        rw [hr'] at h8
        cases h7
        cases h8
        exact hsim.inj k k' o o' b f f' h1.1 h2.1 h5 h6
  · by_cases e : ρ' k = ρ k
    · rw [e] at hk
      obtain ⟨j, σ2, h1, h2⟩ := I.only k hk
      exact ⟨j, σ2, (hls j).2 (.inl h1), h2⟩
    · have h1 := hok.only k e
      rw [hnx0, hnx1] at h1
      exact ⟨i, σ1, (hls i).2 (.inr rfl), hout, h1.1, h1.2⟩
end
end Go.Sh
