/-
  The shadow machine, part P: regions without order: what the shadow's run is.
-/
import Derived.Test.YthfijonopinghaaGreatDoorShO
set_option linter.unusedSimpArgs false
set_option linter.unusedVariables false
namespace Go.Sh
section
variable {E : Env} {code : CodeF} {call : CallF}

/-- The state of the shadow's run between two operations. -/
structure DS where
  a : SAct
  σ : SSt
  rs : List Rc
  loud : Nat
  lk : List (Nat × Nat)
def hidOf (bm : Nat) (rs : List Rc) : List Rc := rs.filter fun r => !bm.testBit r.i
inductive DStep (E : Env) (code : CodeF) (call : CallF) (i : Nat) (o : SOper) (bm : Nat) (s : DS) (v : SV) (out : Option SSt) (s' : DS) : Prop
  | off (hw : wantedS s.a.tm o.guard = false) (hv : v = undefS) (ho : out = none) (hs : s' = ⟨s.a.put o.dst v, s.σ, s.rs, s.loud, s.lk⟩)
  | quiet (hw : wantedS s.a.tm o.guard = true) (l : LOp) (hl : o.op = .loc l) (hv : evLocal l s.a.tm = some v) (ho : out = none) (hs : s' = ⟨s.a.put o.dst v, s.σ, s.rs, s.loud, s.lk⟩)
  | look (hw : wantedS s.a.tm o.guard = true) (agg : Option Nat) (x : SX) (hl : o.op = .mem (.load agg x)) (b : Option Nat) (hv : evLook E s.rs bm s.σ agg (evX s.a.tm x) = some (v, b)) (ho : out = none) (hs : s' = ⟨s.a.put o.dst v, s.σ, s.rs, s.loud, addLook i b s.lk⟩)
  | loud (hw : wantedS s.a.tm o.guard = true) (hl : o.op.loud = true) (hnl : o.op.ld = none) (σ1 : SSt) (ho : out = some σ1) (he : evOp E o.op code call s.a.tm (viewOf (hidOf bm s.rs) s.σ) = .ok (v, σ1)) (hm : σ1.mods = [] ∨ s.loud &&& bm = s.loud) (hk : lookOk bm s.lk σ1.mods = true)
      (hs : s' = ⟨s.a.put o.dst v, joinOf (hidOf bm s.rs) s.σ σ1, ⟨i, s.σ.next, σ1.next, σ1.mods⟩ :: s.rs, addLoud i s.loud (lightOf o.op s.a.tm), addLooks i (lightOf o.op s.a.tm) s.lk⟩)
theorem evDraw_seq : ∀ (ops : List (SOper × Nat)) (i loud : Nat) (rs : List Rc) (lk : List (Nat × Nat)) (a : SAct) (σ : SSt) (Q : SAct × SSt → Prop), (evDraw E code call ops i loud rs lk a σ).all Q →
    ∃ (st : Nat → DS) (v : Nat → SV) (out : Nat → Option SSt), st i = ⟨a, σ, rs, loud, lk⟩ ∧ (∀ j o bm, ops[j]? = some (o, bm) → DStep E code call (i + j) o bm (st (i + j)) (v (i + j)) (out (i + j)) (st (i + j + 1))) ∧ Q ((st (i + ops.length)).a, (st (i + ops.length)).σ) := by
  intro ops
  induction ops with
  | nil =>
    intro i loud rs lk a σ Q h
    exact ⟨fun _ => ⟨a, σ, rs, loud, lk⟩, fun _ => undefS, fun _ => none, rfl, fun j o bm hj => by simp at hj, h⟩
  | cons p os ih =>
    obtain ⟨o, bm⟩ := p
    intro i loud rs lk a σ Q h
    -- from the rest to the whole
    have fin : ∀ (v0 : SV) (out0 : Option SSt) (s' : DS), DStep E code call i o bm ⟨a, σ, rs, loud, lk⟩ v0 out0 s' → (evDraw E code call os (i + 1) s'.loud s'.rs s'.lk s'.a s'.σ).all Q → ∃ (st : Nat → DS) (v : Nat → SV) (out : Nat → Option SSt), st i = ⟨a, σ, rs, loud, lk⟩ ∧
        (∀ j o' bm', ((o, bm) :: os)[j]? = some (o', bm') → DStep E code call (i + j) o' bm' (st (i + j)) (v (i + j)) (out (i + j)) (st (i + j + 1))) ∧ Q ((st (i + ((o, bm) :: os).length)).a, (st (i + ((o, bm) :: os).length)).σ) := by
      intro v0 out0 s' hd hrest
      obtain ⟨st, v, out, h1, h2, h3⟩ := ih (i + 1) _ _ _ _ _ Q hrest
      refine ⟨fun k => if k = i then ⟨a, σ, rs, loud, lk⟩ else st k, fun k => if k = i then v0 else v k, fun k => if k = i then out0 else out k, if_pos rfl, fun j o' bm' hj => ?_, ?_⟩
      · cases j with
        | zero =>
          simp at hj
          obtain ⟨rfl, rfl⟩ := hj
          simp only [Nat.add_zero, if_true]
          rw [if_neg (by omega), h1]
          exact hd
        | succ j =>
          have := h2 j o' bm' (by simpa using hj)
          rw [show i + 1 + j = i + (j + 1) by omega] at this
          simp only
          rw [if_neg (by omega), if_neg (by omega), if_neg (by omega), if_neg (by omega)]
          exact this
      · rw [List.length_cons]
        simp only
        rw [if_neg (by omega), show i + (os.length + 1) = i + 1 + os.length by omega]
        exact h3
    unfold evDraw at h
    split at h
    · rename_i hw
      exact fin undefS none ⟨a.put o.dst undefS, σ, rs, loud, lk⟩ (.off hw rfl rfl rfl) h
    · rename_i hw
      split at h
      · rename_i hq
        cases hop : o.op with
        | loc l =>
          rw [hop] at h
          simp only [evOp, oLoc] at h
          split at h
          · rename_i v hv
            exact fin v none ⟨a.put o.dst v, σ, rs, loud, lk⟩ (.quiet hw l hop hv rfl rfl) h
          · exact h.elim
        | mem m => rw [hop] at hq; cases hq
        | call f args => rw [hop] at hq; cases hq
      · rename_i hq
        split at h
        · rename_i agg x hld
          split at h
          · rename_i v b hv
            have hop : o.op = .mem (.load agg x) := by
              revert hld
              cases o.op with
              | loc l => intro e; cases e
              | call f args => intro e; cases e
              | mem m => cases m <;> intro e <;> first | (cases e; rfl) | cases e
            exact fin v none ⟨a.put o.dst v, σ, rs, loud, addLook i b lk⟩ (.look hw agg x hop b hv rfl rfl) h
          · exact h.elim
        · rename_i hld
          simp only at h
          split at h
          · rename_i v σ1 he
            split at h
            · rename_i hm
              rw [Bool.and_eq_true] at hm
              refine fin v (some σ1) _ (.loud hw hq hld σ1 rfl he ?_ hm.2 rfl) h
              have hm := hm.1
              rw [Bool.or_eq_true] at hm
              rcases hm with hm | hm
              · exact .inl (by simpa using hm)
              · exact .inr (Nat.eq_of_beq_eq_true hm)
            · exact h.elim
          · exact h.elim

/-! ### What lies where, in the shadow's run -/
section
variable {n : Nat} {so : Nat → SOper} {bm : Nat → Nat} {st : Nat → DS} {v : Nat → SV} {out : Nat → Option SSt}
/-- The run goes from 0 to n. -/
structure Run (E : Env) (code : CodeF) (call : CallF) (n : Nat) (so : Nat → SOper) (bm : Nat → Nat) (st : Nat → DS) (v : Nat → SV) (out : Nat → Option SSt) : Prop where
  step : ∀ i, i < n → DStep E code call i (so i) (bm i) (st i) (v i) (out i) (st (i + 1))
  rs0 : (st 0).rs = []
  loud0 : (st 0).loud = 0
  lk0 : (st 0).lk = []
  wf : WF (st 0).σ
  code : CodeStp code
  call : CallStp call
def touch (st : Nat → DS) (out : Nat → Option SSt) (i k : Nat) : Prop := ∃ σ1, out i = some σ1 ∧ (((st i).σ.next ≤ k ∧ k < σ1.next) ∨ k ∈ σ1.mods)
variable (R : Run E code call n so bm st v out)
include R
theorem Run.act {i : Nat} (hi : i < n) : (st (i + 1)).a = (st i).a.put (so i).dst (v i) := by
  cases R.step i hi with
  | off hw hv ho hs => rw [hs]
  | quiet hw l hl hv ho hs => rw [hs]
  | look hw agg x hl b hv ho hs => rw [hs]
  | loud hw hl hnl σ1 ho he hm hk hs => rw [hs]
theorem Run.stp {i : Nat} (hi : i < n) : Stp (st i).σ (st (i + 1)).σ ∧ ∀ σ1, out i = some σ1 → Stp (viewOf (hidOf (bm i) (st i).rs) (st i).σ) σ1 ∧ (st (i + 1)).σ = joinOf (hidOf (bm i) (st i).rs) (st i).σ σ1 := by
  cases R.step i hi with
  | off hw hv ho hs => rw [hs]; exact ⟨Stp.refl _, fun σ1 h => by rw [ho] at h; cases h⟩
  | quiet hw l hl hv ho hs => rw [hs]; exact ⟨Stp.refl _, fun σ1 h => by rw [ho] at h; cases h⟩
  | look hw agg x hl b hv ho hs => rw [hs]; exact ⟨Stp.refl _, fun σ1 h => by rw [ho] at h; cases h⟩
  | loud hw hl hnl σ1 ho he hm hk hs =>
    have h1 := evOp_stp (E := E) R.code R.call (so i).op (st i).a.tm (viewOf (hidOf (bm i) (st i).rs) (st i).σ)
    rw [he] at h1
    rw [hs]
    exact ⟨join_stp h1, fun σ2 h => by rw [ho] at h; cases h; exact ⟨h1, rfl⟩⟩
theorem Run.stps {i j : Nat} (hij : i ≤ j) (hj : j ≤ n) : Stp (st i).σ (st j).σ := by
  induction j with
  | zero => have : i = 0 := by omega
            subst this; exact Stp.refl _
  | succ j ih =>
    by_cases e : i = j + 1
    · subst e; exact Stp.refl _
    · exact (ih (by omega) (by omega)).trans (R.stp (by omega)).1
theorem Run.wfs {i : Nat} (hi : i ≤ n) : WF (st i).σ := R.wf.stp (R.stps (Nat.zero_le _) hi)
theorem Run.next {i j : Nat} (hij : i ≤ j) (hj : j ≤ n) : (st i).σ.next ≤ (st j).σ.next := (R.stps hij hj (R.wfs (by omega)).1).next
theorem Run.out_next {i : Nat} (hi : i < n) {σ1 : SSt} (ho : out i = some σ1) : (st i).σ.next ≤ σ1.next ∧ σ1.next = (st (i + 1)).σ.next := by
  obtain ⟨h1, h2⟩ := (R.stp hi).2 σ1 ho
  exact ⟨(h1 (Nat.le_refl _)).next, by rw [h2]; rfl⟩
/-- The records are those of the loud operations that have been carried out. -/
theorem Run.recs {i : Nat} (hi : i ≤ n) : (∀ r ∈ (st i).rs, r.i < i ∧ ∀ k, r.tch k ↔ touch st out r.i k) ∧ (∀ j, j < i → (out j).isSome = true → ∃ r ∈ (st i).rs, r.i = j) := by
  induction i with
  | zero => rw [R.rs0]; exact ⟨fun r h => (by cases h), fun j hj => by omega⟩
  | succ i ih =>
    obtain ⟨h1, h2⟩ := ih (by omega)
    have same : (st (i + 1)).rs = (st i).rs → out i = none → (∀ r ∈ (st (i + 1)).rs, r.i < i + 1 ∧ ∀ k, r.tch k ↔ touch st out r.i k) ∧ (∀ j, j < i + 1 → (out j).isSome = true → ∃ r ∈ (st (i + 1)).rs, r.i = j) := by
      intro e ho
      rw [e]
      refine ⟨fun r hr => ⟨by have := (h1 r hr).1; omega, (h1 r hr).2⟩, fun j hj hs => ?_⟩
      by_cases e2 : j = i
      · subst e2; rw [ho] at hs; cases hs
      · exact h2 j (by omega) hs
    cases R.step i (by omega) with
    | off hw hv ho hs => exact same (by rw [hs]) ho
    | quiet hw l hl hv ho hs => exact same (by rw [hs]) ho
    | look hw agg x hl b hv ho hs => exact same (by rw [hs]) ho
    | loud hw hl hnl σ1 ho he hm hk hs =>
      rw [hs]
      refine ⟨fun r hr => ?_, fun j hj hs2 => ?_⟩
      · rcases List.mem_cons.1 hr with rfl | hr
        · refine ⟨Nat.lt_succ_self _, fun k => ?_⟩
          constructor
          · intro h; exact ⟨σ1, ho, h⟩
          · rintro ⟨σ2, h3, h4⟩
            rw [ho] at h3; cases h3
            exact h4
        · exact ⟨by have := (h1 r hr).1; omega, (h1 r hr).2⟩
      · by_cases e2 : j = i
        · subst e2; exact ⟨_, List.mem_cons_self, rfl⟩
        · obtain ⟨r, h3, h4⟩ := h2 j (by omega) hs2
          exact ⟨r, List.mem_cons_of_mem _ h3, h4⟩
theorem Run.louds {i : Nat} (hi : i ≤ n) : ∀ j, j < i → (out j).isSome = true → lightOf (so j).op (st j).a.tm = none → (st i).loud.testBit j = true := by
  induction i with
  | zero => intro j hj; omega
  | succ i ih =>
    intro j hj hs hh
    have same : (st (i + 1)).loud = (st i).loud → out i = none → (st (i + 1)).loud.testBit j = true := by
      intro e ho
      rw [e]
      by_cases e2 : j = i
      · subst e2; rw [ho] at hs; cases hs
      · exact ih (by omega) j (by omega) hs hh
    cases R.step i (by omega) with
    | off hw hv ho hs => exact same (by rw [hs]) ho
    | quiet hw l hl hv ho hs => exact same (by rw [hs]) ho
    | look hw agg x hl b hv ho hs => exact same (by rw [hs]) ho
    | loud hw hl hnl σ1 ho he hm hk hs2 =>
      rw [hs2]
      unfold addLoud
      by_cases e2 : j = i
      · subst e2
        rw [hh]
        simp [Nat.testBit_or, Nat.testBit_two_pow]
      · have h1 := ih (by omega) j (by omega) hs hh
        split
        · exact h1
        · simp only [Nat.testBit_or, Bool.or_eq_true]
          exact .inl h1
/-- One that turns blocks has every loud one before it ahead of it. -/
theorem Run.ahead {i j k : Nat} (hij : i < j) (hj : j < n) (hi : (out i).isSome = true) (hh : lightOf (so i).op (st i).a.tm = none) {σ1 : SSt} (ho : out j = some σ1) (hk : k ∈ σ1.mods) : (bm j).testBit i = true := by
  cases R.step j hj with
  | off hw hv ho2 hs => rw [ho2] at ho; cases ho
  | quiet hw l hl hv ho2 hs => rw [ho2] at ho; cases ho
  | look hw agg x hl b hv ho2 hs => rw [ho2] at ho; cases ho
  | loud hw hl hnl σ2 ho2 he hm hk2 hs =>
    rw [ho2] at ho; cases ho
    rcases hm with hm | hm
    · rw [hm] at hk; cases hk
    · have h1 := R.louds (Nat.le_of_lt hj) i hij hi hh
      have h2 := congrArg (fun x => x.testBit i) hm
      simp only [Nat.testBit_and, h1, Bool.true_and] at h2
      exact h2
omit R in
theorem mem_addLooks {i : Nat} {ks : Option (List Nat)} {lk : List (Nat × Nat)} {p : Nat × Nat} (h : p ∈ lk) : p ∈ addLooks i ks lk := by
  unfold addLooks
  split
  · exact List.mem_append_right _ h
  · exact h
omit R in
theorem mem_addLook {i : Nat} {b : Option Nat} {lk : List (Nat × Nat)} {p : Nat × Nat} (h : p ∈ lk) : p ∈ addLook i b lk := by
  unfold addLook
  split
  · exact List.mem_cons_of_mem _ h
  · exact h
/-- What one looked at is kept in mind. -/
theorem Run.lks {i : Nat} (hi : i ≤ n) : ∀ j k, j < i → ∀ (agg : Option Nat) (x : SX), wantedS (st j).a.tm (so j).guard = true → (so j).op = .mem (.load agg x) → ∀ u, evLook E (st j).rs (bm j) (st j).σ agg (evX (st j).a.tm x) = some (u, some k) → (j, k) ∈ (st i).lk := by
  induction i with
  | zero => intro j k hj; omega
  | succ i ih =>
    intro j k hj agg x hg hop u hu
    have same : (st (i + 1)).lk = (st i).lk → j ≠ i → (j, k) ∈ (st (i + 1)).lk := by
      intro e hne
      rw [e]
      exact ih (by omega) j k (by omega) agg x hg hop u hu
    cases R.step i (by omega) with
    | off hw hv ho hs => exact same (by rw [hs]) (fun e => by subst e; rw [hg] at hw; cases hw)
    | quiet hw l hl hv ho hs => exact same (by rw [hs]) (fun e => by subst e; rw [hop] at hl; cases hl)
    | look hw agg2 x2 hl b hv ho hs =>
      rw [hs]
      by_cases e : j = i
      · subst e
        rw [hop] at hl
        cases hl
        rw [hu] at hv
        cases hv
        exact List.mem_cons_self
      · exact mem_addLook (ih (by omega) j k (by omega) agg x hg hop u hu)
    | loud hw hl hnl σ1 ho he hm hk hs =>
      by_cases e : j = i
      · subst e; rw [hop] at hnl; cases hnl
      · rw [hs]
        exact mem_addLooks (ih (by omega) j k (by omega) agg x hg hop u hu)
theorem Run.lights {i : Nat} (hi : i ≤ n) : ∀ j k, j < i → (out j).isSome = true → ∀ ks, lightOf (so j).op (st j).a.tm = some ks → k ∈ ks → (j, k) ∈ (st i).lk := by
  induction i with
  | zero => intro j k hj; omega
  | succ i ih =>
    intro j k hj hso ks hl hk
    have same : (st (i + 1)).lk = (st i).lk → out i = none → (j, k) ∈ (st (i + 1)).lk := by
      intro e ho
      rw [e]
      by_cases e2 : j = i
      · subst e2; rw [ho] at hso; cases hso
      · exact ih (by omega) j k (by omega) hso ks hl hk
    cases R.step i (by omega) with
    | off hw hv ho hs => exact same (by rw [hs]) ho
    | quiet hw l hl hv ho hs => exact same (by rw [hs]) ho
    | look hw agg2 x2 hl2 b hv ho hs =>
      rw [hs]
      by_cases e : j = i
      · subst e; rw [ho] at hso; cases hso
      · exact mem_addLook (ih (by omega) j k (by omega) hso ks hl hk)
    | loud hw hl2 hnl σ1 ho he hm hk2 hs =>
      rw [hs]
      by_cases e : j = i
      · subst e
        simp only [hl, addLooks]
        exact List.mem_append_left _ (List.mem_map.2 ⟨k, hk, rfl⟩)
      · exact mem_addLooks (ih (by omega) j k (by omega) hso ks hl hk)
/-- One that turns a block that another one before it looks at has that one ahead of it. -/
theorem Run.looked {i j k : Nat} (hj : j < n) (hl : (i, k) ∈ (st j).lk) {σ1 : SSt} (ho : out j = some σ1) (hk : k ∈ σ1.mods) : (bm j).testBit i = true := by
  cases R.step j hj with
  | off hw hv ho2 hs => rw [ho2] at ho; cases ho
  | quiet hw l hl hv ho2 hs => rw [ho2] at ho; cases ho
  | look hw agg x hl b hv ho2 hs => rw [ho2] at ho; cases ho
  | loud hw hl2 hnl σ2 ho2 he hm hk2 hs =>
    rw [ho2] at ho; cases ho
    have h1 := List.all_eq_true.1 hk2 (i, k) hl
    rw [Bool.or_eq_true] at h1
    rcases h1 with h1 | h1
    · exact h1
    · rw [Bool.not_eq_true', List.contains_eq_mem] at h1
      simp only [decide_eq_false_iff_not] at h1
      exact absurd hk h1
/-- One that turns a block that one before it may know has that one ahead of it. -/
theorem Run.knows {i j k : Nat} (hij : i < j) (hj : j < n) (hi : (out i).isSome = true) (hh : lightOf (so i).op (st i).a.tm = none ∨ ∃ ks, lightOf (so i).op (st i).a.tm = some ks ∧ k ∈ ks) {σ1 : SSt} (ho : out j = some σ1) (hk : k ∈ σ1.mods) : (bm j).testBit i = true := by
  rcases hh with hh | ⟨ks, hh, hks⟩
  · exact R.ahead hij hj hi hh ho hk
  · exact R.looked hj (R.lights (Nat.le_of_lt hj) i k hij hi ks hh hks) ho hk
/-- Temporaries: the last that was written. -/
theorem Run.tms {i : Nat} (hi : i ≤ n) (t : Nat) : (∃ j, j < i ∧ (so j).dst = some t ∧ (∀ j', j' < i → (so j').dst = some t → j' ≤ j) ∧ getT (st i).a.tm t = v j) ∨ ((∀ j, j < i → (so j).dst ≠ some t) ∧ getT (st i).a.tm t = getT (st 0).a.tm t) := by
  induction i with
  | zero => exact .inr ⟨fun j hj => by omega, rfl⟩
  | succ i ih =>
    have ha := R.act (show i < n by omega)
    by_cases e : (so i).dst = some t
    · refine .inl ⟨i, Nat.lt_succ_self _, e, fun j' hj' _ => by omega, ?_⟩
      rw [ha, e]
      simp only [SAct.put, getT_set, if_true]
    · have hg : getT (st (i + 1)).a.tm t = getT (st i).a.tm t := by
        rw [ha]
        cases hd : (so i).dst with
        | none => rfl
        | some d =>
          simp only [SAct.put, getT_set]
          rw [if_neg]
          intro e2; subst e2; exact e hd
      rcases ih (by omega) with ⟨j, h1, h2, h3, h4⟩ | ⟨h1, h2⟩
      · refine .inl ⟨j, by omega, h2, fun j' hj' hd => ?_, by rw [hg]; exact h4⟩
        by_cases e2 : j' = i
        · subst e2; exact absurd hd e
        · exact h3 j' (by omega) hd
      · refine .inr ⟨fun j hj => ?_, by rw [hg]; exact h2⟩
        by_cases e2 : j = i
        · subst e2; exact e
        · exact h1 j (by omega)
theorem Run.touch_lt {i k : Nat} (hi : i < n) (h : touch st out i k) : k < (st (i + 1)).σ.next := by
  obtain ⟨σ1, ho, h1⟩ := h
  obtain ⟨h2, h3⟩ := R.out_next hi ho
  rw [← h3]
  rcases h1 with h1 | h1
  · exact h1.2
  · have h4 := ((R.stp hi).2 σ1 ho).1 (Nat.le_refl _)
    rcases h4.mods k h1 with h5 | h5
    · cases h5
    · exact Nat.lt_of_lt_of_le h5.1 h2
open Classical in
theorem Run.view {i : Nat} (hi : i < n) (k : Nat) : (viewOf (hidOf (bm i) (st i).rs) (st i).σ).heap.get k = if ∃ j, j < i ∧ (bm i).testBit j = false ∧ touch st out j k then none else (st i).σ.heap.get k := by
  have h := hides_get (hidOf (bm i) (st i).rs) (st i).σ.heap k
  have hv : (viewOf (hidOf (bm i) (st i).rs) (st i).σ).heap.get k = _ := h
  rw [hv]
  obtain ⟨h1, h2⟩ := R.recs (Nat.le_of_lt hi)
  by_cases hc : ∃ j, j < i ∧ (bm i).testBit j = false ∧ touch st out j k
  · rw [if_pos hc, if_pos]
    obtain ⟨j, h3, h4, h5⟩ := hc
    obtain ⟨r, h6, h7⟩ := h2 j h3 (by obtain ⟨σ1, ho, _⟩ := h5; rw [ho]; rfl)
    exact ⟨r, List.mem_filter.2 ⟨h6, by rw [h7, h4]; rfl⟩, (h1 r h6).2 k |>.2 (by rw [h7]; exact h5)⟩
  · rw [if_neg hc, if_neg]
    rintro ⟨r, h3, h4⟩
    obtain ⟨h5, h6⟩ := List.mem_filter.1 h3
    exact hc ⟨r.i, (h1 r h5).1, by simpa using h6, (h1 r h5).2 k |>.1 h4⟩
/-- A block that an operation touches is none that it does not see. -/
theorem Run.seen {i k : Nat} (hi : i < n) (h : touch st out i k) : ∀ j, j < i → touch st out j k → (bm i).testBit j = true := by
  intro j hj ht
  obtain ⟨σ1, ho, h1⟩ := h
  have h2 := R.touch_lt (by omega) ht
  have h3 := R.next (show j + 1 ≤ i by omega) (Nat.le_of_lt hi)
  rcases h1 with h1 | h1
  · omega
  · have h4 := ((R.stp hi).2 σ1 ho).1 (Nat.le_refl _)
    rcases h4.mods k h1 with h5 | ⟨h5, h6⟩
    · cases h5
    · cases hb : (bm i).testBit j with
      | true => rfl
      | false =>
        refine absurd ?_ h6
        have := R.view hi k
        rw [this, if_pos ⟨j, hj, hb, ht⟩]
open Classical in
theorem Run.join {i : Nat} (hi : i < n) (k : Nat) : (st (i + 1)).σ.heap.get k = match out i with
    | some σ1 => if touch st out i k then σ1.heap.get k else (st i).σ.heap.get k
    | none => (st i).σ.heap.get k := by
  cases hout : out i with
  | none =>
    cases R.step i hi with
    | off hw hv ho hs => rw [hs]
    | quiet hw l hl hv ho hs => rw [hs]
    | look hw agg x hl b hv ho hs => rw [hs]
    | loud hw hl hnl σ1 ho he hm hk hs => rw [ho] at hout; cases hout
  | some σ1 =>
    obtain ⟨h1, h2⟩ := (R.stp hi).2 σ1 hout
    have h1 := h1 (Nat.le_refl _)
    simp only
    rw [h2]
    have hb := backs_get (st i).σ.heap (hidOf (bm i) (st i).rs) σ1.heap k
    have hj : (joinOf (hidOf (bm i) (st i).rs) (st i).σ σ1).heap.get k = _ := hb
    rw [hj]
    have hh : (∃ r ∈ hidOf (bm i) (st i).rs, r.tch k) → ¬ touch st out i k := by
      rintro ⟨r, h3, h4⟩ ht
      obtain ⟨h5, h6⟩ := List.mem_filter.1 h3
      obtain ⟨h7, h8⟩ := (R.recs (Nat.le_of_lt hi)).1 r h5
      have := R.seen hi ht r.i h7 ((h8 k).1 h4)
      rw [this] at h6
      cases h6
    by_cases hc : ∃ r ∈ hidOf (bm i) (st i).rs, r.tch k
    · rw [if_pos hc, if_neg (hh hc)]
    · rw [if_neg hc]
      by_cases ht : touch st out i k
      · rw [if_pos ht]
      · rw [if_neg ht]
        have hvk : (viewOf (hidOf (bm i) (st i).rs) (st i).σ).heap.get k = (st i).σ.heap.get k := by
          have := hides_get (hidOf (bm i) (st i).rs) (st i).σ.heap k
          rw [if_neg hc] at this
          exact this
        by_cases hk : k < (st i).σ.next
        · by_cases hne : σ1.heap.get k = (viewOf (hidOf (bm i) (st i).rs) (st i).σ).heap.get k
          · rw [hne, hvk]
          · exact absurd ⟨σ1, hout, .inr (h1.chg k hk hne)⟩ ht
        · have hk1 : σ1.next ≤ k := by
            rcases Nat.lt_or_ge k σ1.next with h3 | h3
            · exact absurd ⟨σ1, hout, .inl ⟨by omega, h3⟩⟩ ht
            · exact h3
          have hw := (R.wfs (Nat.le_of_lt hi)).2
          rw [hw k (by omega)]
          refine h1.above (fun j hj => ?_) k hk1
          have := R.view hi j
          rw [this]
          split
          · rfl
          · exact hw j hj
/-- Blocks: the last that was made of them. -/
theorem Run.heaps {i : Nat} (hi : i ≤ n) (k : Nat) : (∃ j σ1, j < i ∧ out j = some σ1 ∧ touch st out j k ∧ (∀ j', j' < i → touch st out j' k → j' ≤ j) ∧ (st i).σ.heap.get k = σ1.heap.get k) ∨ ((∀ j, j < i → ¬ touch st out j k) ∧ (st i).σ.heap.get k = (st 0).σ.heap.get k) := by
  induction i with
  | zero => exact .inr ⟨fun j hj => by omega, rfl⟩
  | succ i ih =>
    have hj := R.join (show i < n by omega) k
    by_cases ht : touch st out i k
    · obtain ⟨σ1, ho, h1⟩ := id ht
      rw [ho] at hj
      simp only at hj
      rw [if_pos ht] at hj
      exact .inl ⟨i, σ1, Nat.lt_succ_self _, ho, ht, fun j' hj' _ => by omega, hj⟩
    · have hg : (st (i + 1)).σ.heap.get k = (st i).σ.heap.get k := by
        rw [hj]
        cases out i with
        | none => rfl
        | some σ1 => simp only; rw [if_neg ht]
      rcases ih (by omega) with ⟨j, σ1, h1, h2, h3, h4, h5⟩ | ⟨h1, h2⟩
      · refine .inl ⟨j, σ1, by omega, h2, h3, fun j' hj' hd => ?_, by rw [hg]; exact h5⟩
        by_cases e2 : j' = i
        · subst e2; exact absurd hd ht
        · exact h4 j' (by omega) hd
      · refine .inr ⟨fun j hj => ?_, by rw [hg]; exact h2⟩
        by_cases e2 : j = i
        · subst e2; exact ht
        · exact h1 j (by omega)
end
end
end Go.Sh
