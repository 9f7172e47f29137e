/-
  The shadow machine, part Q: regions without order: the model's side.
-/
import Derived.Test.YthfijonopinghaaGreatDoorShP
set_option linter.unusedSimpArgs false
set_option linter.unusedVariables false
namespace Go.Sh

/-! ### What stands ahead -/
theorem foldl_push_spec (g : Array Nat → Oper → Nat) : ∀ (l : List Oper) (acc : Array Nat), (l.foldl (fun acc o => acc.push (g acc o)) acc).size = acc.size + l.length ∧ (∀ i, i < acc.size → (l.foldl (fun acc o => acc.push (g acc o)) acc)[i]? = acc[i]?) ∧
    ∀ i o, l[i]? = some o → ∃ acc', acc'.size = acc.size + i ∧ (∀ k, k < acc'.size → acc'[k]? = (l.foldl (fun acc o => acc.push (g acc o)) acc)[k]?) ∧ (l.foldl (fun acc o => acc.push (g acc o)) acc)[acc.size + i]? = some (g acc' o) := by
  intro l
  induction l with
  | nil => intro acc; exact ⟨by simp, fun i _ => rfl, fun i o h => by simp at h⟩
  | cons o l ih =>
    intro acc
    obtain ⟨h1, h2, h3⟩ := ih (acc.push (g acc o))
    simp only [List.foldl_cons]
    have hlt : ∀ i, i < acc.size → (acc.push (g acc o))[i]? = acc[i]? := fun i hi => by
      rw [Array.getElem?_push]
      rw [if_neg (by omega)]
    refine ⟨by rw [h1]; simp; omega, fun i hi => by rw [h2 i (by simp; omega)]; exact hlt i hi, fun i o' hi => ?_⟩
    cases i with
    | zero =>
      simp only [List.getElem?_cons_zero, Option.some.injEq] at hi
      subst hi
      refine ⟨acc, rfl, fun k hk => ?_, ?_⟩
      · rw [h2 k (by simp; omega)]; exact (hlt k hk).symm
      · rw [Nat.add_zero, h2 acc.size (by simp)]
        simp
    | succ i =>
      obtain ⟨acc', h4, h5, h6⟩ := h3 i o' (by simpa using hi)
      refine ⟨acc', by rw [h4]; simp; omega, h5, ?_⟩
      rw [← h6]
      congr 1
      simp
      omega
theorem foldBits (p : Edge → Bool) (f : Edge → Nat) : ∀ (l : List Edge) (s x : Nat), (l.foldl (fun s e => if p e then s ||| 2 ^ e.on ||| f e else s) s).testBit x = true → s.testBit x = true ∨ ∃ e ∈ l, p e = true ∧ (x = e.on ∨ (f e).testBit x = true) := by
  intro l
  induction l with
  | nil => intro s x h; exact .inl h
  | cons e l ih =>
    intro s x h
    rw [List.foldl_cons] at h
    rcases ih _ x h with h1 | ⟨e', h1, h2, h3⟩
    · split at h1
      · rename_i hp
        simp only [Nat.testBit_or, Nat.testBit_two_pow, Bool.or_eq_true, decide_eq_true_eq] at h1
        rcases h1 with (h1 | h1) | h1
        · exact .inl h1
        · exact .inr ⟨e, List.mem_cons_self, hp, .inl h1.symm⟩
        · exact .inr ⟨e, List.mem_cons_self, hp, .inr h1⟩
      · exact .inl h1
    · exact .inr ⟨e', List.mem_cons_of_mem _ h1, h2, h3⟩
theorem before_spec {ops : Array Oper} {i x : Nat} (h : ((Region.before ops).getD i 0).testBit x = true) : ∃ o e, ops[i]? = some o ∧ e ∈ o.after ∧ Region.binds .any e = true ∧ (x = e.on ∨ ((Region.before ops).getD e.on 0).testBit x = true) := by
  have hb : Region.before ops = ops.toList.foldl (fun acc o => acc.push (o.after.toList.foldl (fun s e => if Region.binds .any e = true then s ||| 2 ^ e.on ||| acc.getD e.on 0 else s) 0)) #[] := by
    unfold Region.before
    rw [← Array.foldl_toList]
    congr 1
    funext acc o
    rw [← Array.foldl_toList]
  obtain ⟨h1, h2, h3⟩ := foldl_push_spec (fun acc o => o.after.toList.foldl (fun s e => if Region.binds .any e = true then s ||| 2 ^ e.on ||| acc.getD e.on 0 else s) 0) ops.toList #[]
  rw [← hb] at h1 h3
  have hi : i < ops.size := by
    rcases Nat.lt_or_ge i ops.size with hi | hi
    · exact hi
    · have : (Region.before ops)[i]? = none := Array.getElem?_eq_none (by rw [h1]; simpa using hi)
      rw [Array.getD_eq_getD_getElem?, this] at h
      simp at h
  have ho : ops.toList[i]? = some ops[i] := by simp [hi]
  obtain ⟨acc', h4, h5, h6⟩ := h3 i _ ho
  simp only [List.size_toArray, List.length_nil, Nat.zero_add] at h6
  rw [Array.getD_eq_getD_getElem?, h6, Option.getD_some] at h
  rcases foldBits _ _ _ _ _ h with h7 | ⟨e, h7, h8, h9⟩
  · simp at h7
  · refine ⟨ops[i], e, by simp [hi], by simpa using h7, h8, ?_⟩
    rcases h9 with h9 | h9
    · exact .inl h9
    · right
      rcases Nat.lt_or_ge e.on acc'.size with hlt | hge
      · rw [Array.getD_eq_getD_getElem?, h5 _ hlt, ← Array.getD_eq_getD_getElem?] at h9
        exact h9
      · rw [Array.getD_eq_getD_getElem?, Array.getElem?_eq_none hge] at h9
        simp at h9
theorem zipIdx_all {α : Type} {l : List α} {p : α × Nat → Bool} (h : l.zipIdx.all p = true) {i : Nat} {x : α} (hx : l[i]? = some x) : p (x, i) = true := by
  rw [List.all_eq_true] at h
  refine h (x, i) ?_
  rw [List.mk_mem_zipIdx_iff_getElem?]
  exact hx
theorem inOrder_spec {ops : Array Oper} (h : inOrder ops = true) {i : Nat} {o : Oper} (ho : ops[i]? = some o) : ∀ e ∈ o.after, Region.binds .any e = true → e.on < i := by
  intro e he hb
  have h1 := zipIdx_all h (i := i) (x := o) (by simpa using ho)
  simp only [Array.all_eq_true_iff_forall_mem] at h1
  have h2 := h1 e he
  rw [hb] at h2
  simpa using h2
theorem apartAll_spec {ops : Array Oper} {b : Array Nat} (h : apartAll ops b = true) {i j : Nat} {x y : Oper} (hx : ops[i]? = some x) (hy : ops[j]? = some y) (hij : i < j) : (b.getD j 0).testBit i = true ∨ x.apart ops y = true := by
  have h1 := zipIdx_all h (i := j) (x := y) (by simpa using hy)
  have h2 := zipIdx_all h1 (i := i) (x := x) (by simpa using hx)
  simp only [Bool.or_eq_true, Bool.not_eq_true'] at h2
  rcases h2 with (h2 | h2) | h2
  · rw [bltT hij] at h2; cases h2
  · exact .inl h2
  · exact .inr h2

/-! ### What holds between two operations, whichever have been carried out -/
def LS (n : Nat) (listed : Array Bool) (j : Nat) : Prop := j < n ∧ listed.getD j true = true
structure DInv (C : Cx) (N n : Nat) (so : Nat → SOper) (bm : Nat → Nat) (st : Nat → DS) (v : Nat → SV) (out : Nat → Option SSt) (ρ0 : Ren) (w0 : World) (ra0 : Act) (listed : Array Bool) (ρ : Ren) (w : World) (ra : Act) : Prop where
  size : listed.size = n
  closed : ∀ j, LS n listed j → ∀ i, (bm j).testBit i = true → LS n listed i
  tm : ∀ t, (∃ i, LS n listed i ∧ (so i).dst = some t ∧ (∀ j, LS n listed j → (so j).dst = some t → j ≤ i) ∧ VR C.P C.B (World.shp w) ρ (v i) (ra.tmps.getD t undef)) ∨
    ((∀ i, LS n listed i → (so i).dst ≠ some t) ∧ VR C.P C.B (World.shp w) ρ (getT (st 0).a.tm t) (ra.tmps.getD t undef))
  tmps : N ≤ ra.tmps.size
  defers : ra.defers = ra0.defers
  heap : ∃ σS : SSt, (∀ k, (∃ i σ1, LS n listed i ∧ out i = some σ1 ∧ touch st out i k ∧ (∀ j, LS n listed j → touch st out j k → j ≤ i) ∧ σS.heap.get k = σ1.heap.get k) ∨
      ((∀ i, LS n listed i → ¬ touch st out i k) ∧ σS.heap.get k = (st 0).σ.heap.get k)) ∧
    (∀ k o b off, σS.heap.get k = some o → ρ k = some (b, off) → w0.heap.size ≤ b ∨ ∃ k0 o0 off0, (st 0).σ.heap.get k0 = some o0 ∧ ρ0 k0 = some (b, off0)) ∧ Sim C ρ σS w
  ext : ∀ k p, ρ0 k = some p → ρ k = some p
  fr : Fr ρ0 (st 0).σ w0 w
  only : ∀ k, ρ k ≠ ρ0 k → ∃ i σ1, LS n listed i ∧ out i = some σ1 ∧ (st i).σ.next ≤ k ∧ k < σ1.next

theorem Sim.sub {C : Cx} {ρ : Ren} {σ σ' : SSt} {w : World} (h : Sim C ρ σ w) (hs : ∀ k o, σ'.heap.get k = some o → σ.heap.get k = some o) : Sim C ρ σ' w :=
  ⟨fun k o hk => h.objs k o (hs k o hk), fun k k' o o' b f f' hk hk' => h.inj k k' o o' b f f' (hs k o hk) (hs k' o' hk'), h.base, h.size⟩

section
variable {C : Cx} {N n : Nat} {ops : Array Oper} {code : CodeF} {call : CallF} {so : Nat → SOper} {bm : Nat → Nat} {st : Nat → DS} {v : Nat → SV} {out : Nat → Option SSt} {ρ0 ρ : Ren} {w0 w : World} {ra0 ra : Act} {listed : Array Bool}
variable (R : Run C.E code call n so bm st v out) (hn : n = ops.size) (hso : ∀ i o, ops[i]? = some o → compOper C.P N ops o = some (so i)) (hbm : ∀ i, bm i = (Region.before ops).getD i 0) (hap : apartAll ops (Region.before ops) = true)
variable (I : DInv C N n so bm st v out ρ0 w0 ra0 listed ρ w ra)

theorem LS.set {i j : Nat} (hs : listed.size = n) (hi : i < n) : LS n (listed.setIfInBounds i true) j ↔ LS n listed j ∨ j = i := by
  unfold LS
  rw [Array.getD_eq_getD_getElem?, Array.getElem?_setIfInBounds, Array.getD_eq_getD_getElem?]
  by_cases e : i = j
  · subst e
    rw [if_pos rfl, if_pos (by omega)]
    simp [hi]
  · rw [if_neg e]
    constructor
    · intro h; exact .inl h
    · rintro (h | h)
      · exact h
      · exact absurd h.symm e
/-- The temporaries that an operation looks at. -/
theorem DInv.look {i : Nat} {o : Oper} (hi : i < n) (hnl : ¬ LS n listed i) (hb : ∀ j, (bm i).testBit j = true → LS n listed j) (ho : ops[i]? = some o) {t : Nat} (ht : t ∈ o.looksAt ops)
    (R : Run C.E code call n so bm st v out) (hn : n = ops.size) (hso : ∀ i o, ops[i]? = some o → compOper C.P N ops o = some (so i)) (hbm : ∀ i, bm i = (Region.before ops).getD i 0) (hap : apartAll ops (Region.before ops) = true) (I : DInv C N n so bm st v out ρ0 w0 ra0 listed ρ w ra) :
    VR C.P C.B (World.shp w) ρ (getT (st i).a.tm t) (ra.tmps.getD t undef) := by
  have hdst : ∀ j x, ops[j]? = some x → x.dst = (so j).dst := fun j x hx => (compOper_parts (hso j x hx)).2.1.symm
  have hop : ∀ j, j < n → ∃ x, ops[j]? = some x := fun j hj => ⟨ops[j]'(by omega), by simp⟩
  -- one that writes t and has been carried out stands before it
  have early : ∀ j, LS n listed j → (so j).dst = some t → j < i := by
    intro j hj hd
    rcases Nat.lt_trichotomy j i with h | h | h
    · exact h
    · subst h; exact absurd hj hnl
    · obtain ⟨x, hx⟩ := hop j hj.1
      rcases apartAll_spec hap ho hx h with h1 | h1
      · rw [← hbm] at h1
        exact absurd (I.closed j hj i h1) hnl
      · exact absurd ht ((Oper.apart_spec h1).2.2 t (by rw [hdst j x hx]; exact hd))
  rcases R.tms (Nat.le_of_lt hi) t with ⟨j, h1, h2, h3, h4⟩ | ⟨h1, h2⟩
  · have hj : LS n listed j := by
      obtain ⟨x, hx⟩ := hop j (by omega)
      rcases apartAll_spec hap hx ho h1 with h5 | h5
      · exact hb j (by rw [hbm]; exact h5)
      · exact absurd ht ((Oper.apart_spec h5).1 t (by rw [hdst j x hx]; exact h2))
    rw [h4]
    rcases I.tm t with ⟨i', h5, h6, h7, h8⟩ | ⟨h5, _⟩
    · have h9 := h7 j hj h2
      have h10 := h3 i' (early i' h5 h6) h6
      have : i' = j := by omega
      subst this
      exact h8
    · exact absurd h2 (h5 j hj)
  · rw [h2]
    rcases I.tm t with ⟨i', h5, h6, h7, h8⟩ | ⟨_, h8⟩
    · exact absurd h6 (h1 i' (early i' h5 h6))
    · exact h8
/-- A loud one carried out behind this one touches no block that this one knows. -/
theorem DInv.later {i j k : Nat} (hi : i < n) (hnl : ¬ LS n listed i) (hout : (out i).isSome = true) (hj : LS n listed j) (hij : i ≤ j) (hk : k < (st (i + 1)).σ.next) (hkn : lightOf (so i).op (st i).a.tm = none ∨ ∃ ks, lightOf (so i).op (st i).a.tm = some ks ∧ k ∈ ks)
    (R : Run C.E code call n so bm st v out) (I : DInv C N n so bm st v out ρ0 w0 ra0 listed ρ w ra) : ¬ touch st out j k := by
  intro ht
  have hne : i ≠ j := fun e => by subst e; exact hnl hj
  obtain ⟨σ1, ho, h1⟩ := ht
  rcases h1 with h1 | h1
  · have := R.next (show i + 1 ≤ j by omega) (Nat.le_of_lt hj.1)
    omega
  · exact hnl (I.closed j hj i (R.knows (by omega) hj.1 hout hkn ho h1))
theorem DInv.view {i : Nat} (hi : i < n) (hnl : ¬ LS n listed i) (hb : ∀ j, (bm i).testBit j = true → LS n listed j) (hout : (out i).isSome = true)
    (R : Run C.E code call n so bm st v out) (I : DInv C N n so bm st v out ρ0 w0 ra0 listed ρ w ra) {σS : SSt}
    (hS : ∀ k, (∃ i σ1, LS n listed i ∧ out i = some σ1 ∧ touch st out i k ∧ (∀ j, LS n listed j → touch st out j k → j ≤ i) ∧ σS.heap.get k = σ1.heap.get k) ∨ ((∀ i, LS n listed i → ¬ touch st out i k) ∧ σS.heap.get k = (st 0).σ.heap.get k)) :
    ∀ k o, (lightOf (so i).op (st i).a.tm = none ∨ ∃ ks, lightOf (so i).op (st i).a.tm = some ks ∧ k ∈ ks) → (viewOf (hidOf (bm i) (st i).rs) (st i).σ).heap.get k = some o → σS.heap.get k = some o := by
  intro k o hkw hk
  rw [R.view hi k] at hk
  split at hk
  · cases hk
  · rename_i hnh
    have hkn : k < (st i).σ.next := by
      rcases Nat.lt_or_ge k (st i).σ.next with h | h
      · exact h
      · rw [(R.wfs (Nat.le_of_lt hi)).2 k h] at hk; cases hk
    have hkn1 : k < (st (i + 1)).σ.next := Nat.lt_of_lt_of_le hkn (R.next (Nat.le_succ i) hi)
    have early : ∀ j, LS n listed j → touch st out j k → j < i := by
      intro j hj ht
      rcases Nat.lt_or_ge j i with h | h
      · exact h
      · exact absurd ht (DInv.later hi hnl hout hj h hkn1 hkw R I)
    rcases R.heaps (Nat.le_of_lt hi) k with ⟨j, σ1, h1, h2, h3, h4, h5⟩ | ⟨h1, h2⟩
    · have hj : LS n listed j := by
        refine hb j ?_
        cases hbit : (bm i).testBit j with
        | true => rfl
        | false => exact absurd ⟨j, h1, hbit, h3⟩ hnh
      rcases hS k with ⟨i', σ2, h6, h7, h8, h9, h10⟩ | ⟨h6, _⟩
      · have h11 := h9 j hj h3
        have h12 := h4 i' (early i' h6 h8) h8
        have : i' = j := by omega
        subst this
        rw [h2] at h7
        cases h7
        rw [h10, ← h5]
        exact hk
      · exact absurd h3 (h6 j hj)
    · rcases hS k with ⟨i', σ2, h6, h7, h8, h9, h10⟩ | ⟨_, h6⟩
      · exact absurd h8 (h1 i' (early i' h6 h8))
      · rw [h6, ← h2]; exact hk
end
end Go.Sh
