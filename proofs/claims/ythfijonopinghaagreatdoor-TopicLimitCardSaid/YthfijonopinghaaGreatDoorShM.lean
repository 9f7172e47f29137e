/-
  The shadow machine, part M: how a run changes the shadow's own state.
-/
import Derived.Test.YthfijonopinghaaGreatDoorShL
set_option linter.unusedSimpArgs false
set_option linter.unusedVariables false
namespace Go.Sh

/-! ### Answers -/
namespace Ev
variable {α β : Type}
/-- Whatever is answered. -/
def box (R : α → Prop) : Ev α → Prop
  | .fail => True
  | .ok a => R a
  | .any n k => ∀ i, i ≤ n → (k i).box R
theorem box_bind {R : β → Prop} {f : α → Ev β} : ∀ (m : Ev α), (m.bind f).box R ↔ m.box fun a => (f a).box R
  | .fail => Iff.rfl
  | .ok _ => Iff.rfl
  | .any _ k => forall_congr' fun i => forall_congr' fun _ => box_bind (k i)
theorem box_mono {R R' : α → Prop} (h : ∀ a, R a → R' a) : ∀ (m : Ev α), m.box R → m.box R'
  | .fail, _ => trivial
  | .ok a, x => h a x
  | .any _ k, x => fun i hi => box_mono h (k i) (x i hi)
theorem all_box {Q R : α → Prop} : ∀ (m : Ev α), m.all Q → m.box R → m.all fun a => R a ∧ Q a
  | .fail, x, _ => x
  | .ok _, x, y => ⟨y, x⟩
  | .any _ k, x, y => fun i hi => all_box (k i) (x i hi) (y i hi)
theorem all_get {Q : α → Prop} : ∀ (m : Ev α), m.all Q → ∃ a, Q a
  | .fail, x => x.elim
  | .ok a, x => ⟨a, x⟩
  | .any _ k, x => all_get (k 0) (x 0 (Nat.zero_le _))
end Ev

/-! ### A step of the state -/
structure StpC (σ σ' : SSt) : Prop where
  next : σ.next ≤ σ'.next
  mark : σ'.mark = σ.mark
  mono : ∀ k, k ∈ σ.mods → k ∈ σ'.mods
  mods : ∀ k, k ∈ σ'.mods → k ∈ σ.mods ∨ (k < σ.mark ∧ σ.heap.get k ≠ none)
  chg : ∀ k, k < σ.mark → σ'.heap.get k ≠ σ.heap.get k → k ∈ σ'.mods
  dead : ∀ k, k < σ.next → σ.heap.get k = none → σ'.heap.get k = none
  above : (∀ k, σ.next ≤ k → σ.heap.get k = none) → ∀ k, σ'.next ≤ k → σ'.heap.get k = none
def Stp (σ σ' : SSt) : Prop := σ.mark ≤ σ.next → StpC σ σ'
theorem Stp.refl (σ : SSt) : Stp σ σ := fun _ => ⟨Nat.le_refl _, rfl, fun _ h => h, fun _ h => .inl h, fun _ _ h => absurd rfl h, fun _ _ h => h, fun h => h⟩
theorem Stp.trans {σ σ1 σ2 : SSt} (h : Stp σ σ1) (k : Stp σ1 σ2) : Stp σ σ2 := by
  intro hm
  have h1 := h hm
  have h2 := k (by rw [h1.mark]; exact Nat.le_trans hm h1.next)
  refine ⟨Nat.le_trans h1.next h2.next, h2.mark.trans h1.mark, fun i hi => h2.mono i (h1.mono i hi), fun i hi => ?_, fun i hi hne => ?_, fun i hi hd => h2.dead i (Nat.lt_of_lt_of_le hi h1.next) (h1.dead i hi hd), fun ha => h2.above (h1.above ha)⟩
  · rcases h2.mods i hi with h3 | ⟨h3, h4⟩
    · exact h1.mods i h3
    · rw [h1.mark] at h3
      exact .inr ⟨h3, fun h5 => h4 (h1.dead i (Nat.lt_of_lt_of_le h3 hm) h5)⟩
  · by_cases he : σ1.heap.get i = σ.heap.get i
    · rw [← he] at hne
      exact h2.chg i (by rw [h1.mark]; exact hi) hne
    · exact h2.mono i (h1.chg i hi he)
theorem Stp.alloc (σ : SSt) (o : SObj) : Stp σ (σ.alloc o) := by
  intro hm
  have hget : ∀ k, (σ.alloc o).heap.get k = if k = σ.next then some o else σ.heap.get k := fun k => T.get_set _ _ _ _
  refine ⟨Nat.le_succ _, rfl, fun _ h => h, fun _ h => .inl h, fun k hk hne => ?_, fun k hk hd => ?_, fun ha k hk => ?_⟩
  · rw [hget, if_neg (by omega)] at hne
    exact absurd rfl hne
  · rw [hget, if_neg (by omega)]; exact hd
  · have hk : σ.next + 1 ≤ k := hk
    rw [hget, if_neg (by omega)]; exact ha k (by omega)
theorem Stp.newCells (σ : SSt) (e : TypeId) (cs : List SV) : Stp σ (σ.newCells e cs) := Stp.alloc _ _
theorem Stp.put {σ : SSt} {k : Nat} {o : SObj} (h : σ.heap.get k = some o) (o' : Option SObj) : Stp σ (σ.put k o') := by
  intro hm
  have hget : ∀ j, (σ.put k o').heap.get j = if j = k then o' else σ.heap.get j := fun j => T.get_set _ _ _ _
  have hmods : (σ.put k o').mods = match Nat.blt k σ.mark with | true => k :: σ.mods | false => σ.mods := rfl
  refine ⟨Nat.le_refl _, rfl, fun i hi => ?_, fun i hi => ?_, fun i hi hne => ?_, fun i hi hd => ?_, fun ha i hi => ?_⟩
  · rw [hmods]; split
    · exact List.mem_cons_of_mem _ hi
    · exact hi
  · rw [hmods] at hi
    split at hi
    · rename_i hb
      rcases List.mem_cons.1 hi with rfl | hi
      · exact .inr ⟨of_blt hb, by rw [h]; simp⟩
      · exact .inl hi
    · exact .inl hi
  · rw [hget] at hne
    by_cases e : i = k
    · subst e; rw [hmods, bltT hi]; exact List.mem_cons_self
    · rw [if_neg e] at hne; exact absurd rfl hne
  · rw [hget]
    by_cases e : i = k
    · subst e; rw [h] at hd; cases hd
    · rw [if_neg e]; exact hd
  · rw [hget]
    by_cases e : i = k
    · subst e
      have := ha i hi
      rw [h] at this; cases this
    · rw [if_neg e]; exact ha i hi

/-! ### The operations -/
theorem wr_stp {σ σ' : SSt} {a : SA} {vs : List SV} (h : wr σ a vs = some σ') : Stp σ σ' := by
  unfold wr at h
  split at h
  · cases h
  · split at h
    · rename_i hg
      split at h
      · cases h; exact Stp.put hg _
      · cases h
    · cases h
theorem appendS_stp {E : Env} {σ : SSt} {elem : TypeId} {size bytes : Nat} {s : SV} {n : Nat} {news : Option (List SV)} : (Ev.of (appendS E σ elem size bytes s n news)).box fun r => Stp σ r.2 := by
  unfold appendS
  split
  · split
    · split
      · split <;> first | exact trivial | exact Stp.refl _
      · exact Stp.refl _
    · split
      · exact trivial
      · split
        · split
          · split
            · exact trivial
            · split
              · exact trivial
              · rename_i hw; exact wr_stp hw
          · split
            · split
              · exact trivial
              · exact Stp.newCells _ _ _
            · exact trivial
        · split
          · exact trivial
          · split
            · exact trivial
            · split
              · split
                · rename_i hg
                  split
                  · exact (Stp.put hg none).trans (Stp.newCells _ _ _)
                  · exact trivial
                · exact trivial
              · exact trivial
  · exact trivial
theorem evMem_stp (E : Env) (m : MOp) (tm : T SV) (σ : SSt) : (evMem E m tm σ).box fun r => Stp σ r.2 := by
  cases m with
  | alloc elem zero => exact Stp.newCells _ _ _
  | box elem x => simp only [evMem, mBox]; split <;> first | exact trivial | exact Stp.newCells _ _ _
  | buildSlice elem size len zero parts =>
    simp only [evMem, mBuildSlice]
    split
    · exact trivial
    · split <;> first | exact trivial | exact Stp.newCells _ _ _
  | load agg x =>
    simp only [evMem, mLoad]
    split
    · split <;> first | exact trivial | exact Stp.refl _
    · exact trivial
  | store size x v =>
    simp only [evMem, mStore]
    split
    · split
      · split
        · rename_i hw; exact wr_stp hw
        · exact trivial
      · exact trivial
    · exact trivial
  | convBytes elem x =>
    simp only [evMem, mConvBytes]
    split
    · split <;> first | exact trivial | exact Stp.newCells _ _ _
    · exact trivial
  | convStr x =>
    simp only [evMem, mConvStr]
    split
    · exact Stp.refl _
    · split
      · exact trivial
      · split <;> first | exact trivial | exact Stp.refl _
    · exact trivial
  | mkMap => exact Stp.alloc _ _
  | mkSlice elem size bytes zero l c =>
    simp only [evMem, mMkSlice]
    split
    · split <;> first | exact trivial | exact Stp.newCells _ _ _
    · exact trivial
  | lookup kk zero ok x k =>
    simp only [evMem, mLookup]
    split
    · exact trivial
    · split
      · exact trivial
      · exact Stp.refl _
  | mapUpdate kk x k v =>
    simp only [evMem, mMapUpdate]
    split
    · split
      · rename_i hg
        split <;> first | exact trivial | exact Stp.put hg _
      · exact trivial
    · exact trivial
  | delete kk x k =>
    simp only [evMem, mDelete]
    split
    · split <;> first | exact trivial | exact Stp.refl _
    · split
      · rename_i hg
        split <;> first | exact trivial | exact Stp.put hg _
      · exact trivial
    · exact trivial
  | lenMap x =>
    simp only [evMem, mLenMap]
    split
    · exact Stp.refl _
    · split <;> first | exact trivial | exact Stp.refl _
    · exact trivial
  | range x =>
    simp only [evMem, mRange]
    split
    · exact Stp.alloc _ _
    · split <;> first | exact trivial | exact Stp.alloc _ _
    · exact trivial
  | next x =>
    simp only [evMem, mNext]
    split
    · split
      · exact Stp.refl _
      · rename_i hg
        split
        · split
          · exact trivial
          · split
            · exact Stp.refl _
            · exact Stp.put hg _
            · intro i hi
              simp only
              split
              · exact Stp.put hg _
              · exact trivial
        · exact trivial
      · exact trivial
    · exact trivial
  | entry x =>
    simp only [evMem, mEntry]
    split
    · split
      · split
        · split <;> first | exact trivial | exact Stp.refl _
        · exact trivial
      · exact trivial
    · exact trivial
  | append elem size bytes s x =>
    simp only [evMem, mAppend]
    split
    · exact appendS_stp
    · exact trivial
  | appendZ elem size bytes zero s n =>
    simp only [evMem, mAppendZ]
    split
    · split
      · exact appendS_stp
      · exact trivial
    · exact trivial
  | same x =>
    simp only [evMem, mSame]
    split
    · split
      · exact trivial
      · split
        · rename_i hg; exact Stp.put hg _
        · exact trivial
    · exact trivial
  | bad => exact trivial
  | copy size d s =>
    simp only [evMem, mCopy]
    split
    · split
      · exact trivial
      · split
        · exact Stp.refl _
        · split
          · exact Stp.refl _
          · split
            · rename_i hw; exact wr_stp hw
            · exact trivial
    · exact trivial
  | clear zero x =>
    simp only [evMem, mClear]
    split
    · exact Stp.refl _
    · exact Stp.refl _
    · split
      · rename_i hw; exact wr_stp hw
      · exact trivial
    · exact trivial

/-! ### Calls and code -/
def CodeStp (code : CodeF) : Prop := ∀ c a σ, (code c a σ).box fun r => Stp σ r.2.2
def CallStp (call : CallF) : Prop := ∀ f args σ, (call f args σ).box fun r => Stp σ r.2
section
variable {E : Env} {code : CodeF} {call : CallF} (hcode : CodeStp code) (hcall : CallStp call)
theorem roundEnd_stp (l : Nat) (r : SExit × SAct × SSt) : (roundEnd l r).box fun q => Stp r.2.2 q.2 := by
  unfold roundEnd
  split
  · rename_i L2 hg
    split
    · exact Stp.put hg _
    · exact Stp.put hg _
    · exact Stp.put hg _
  · exact trivial
include hcode in
theorem roundBody_stp (l : Nat) (body : SCode) (r : SExit × SAct × SSt) : (roundBody code l body r).box fun q => Stp r.2.2 q.2 := by
  unfold roundBody
  split
  · rename_i L1 _ hg
    split
    · rw [Ev.box_bind]
      exact Ev.box_mono (fun r2 hr2 => Ev.box_mono (fun q hq => ((Stp.put hg _).trans hr2).trans hq) _ (roundEnd_stp l r2)) _ (hcode _ _ _)
    · exact trivial
  · exact trivial
include hcode in
theorem evRound_stp (l : Nat) (args : List SV) (σ : SSt) : (evRound code l args σ).box fun r => Stp σ r.2 := by
  unfold evRound
  split
  · split
    · exact trivial
    · rw [Ev.box_bind]
      exact Ev.box_mono (fun r hr => Ev.box_mono (fun q hq => hr.trans hq) _ (roundBody_stp hcode l _ r)) _ (hcode _ _ σ)
  · exact trivial
include hcode hcall in
theorem evOp_stp (op : SOp) (tm : T SV) (σ : SSt) : (evOp E op code call tm σ).box fun r => Stp σ r.2 := by
  cases op with
  | loc o =>
    simp only [evOp, oLoc]
    split
    · exact Stp.refl _
    · exact trivial
  | mem m => exact evMem_stp E m tm σ
  | call f args =>
    simp only [evOp, oCall]
    split
    · exact hcall _ _ _
    · exact evRound_stp hcode _ _ _
    · exact trivial
include hcode hcall in
theorem evOps_stp : ∀ (ops : List SOper) (a : SAct) (σ : SSt), (evOps E code call ops a σ).box fun r => Stp σ r.2 := by
  intro ops
  induction ops with
  | nil => intro a σ; rw [evOps_nil]; exact Stp.refl _
  | cons o os ih =>
    intro a σ
    rw [evOps_cons]
    split
    · rw [Ev.box_bind]
      refine Ev.box_mono (fun r hr => ?_) _ (evOp_stp hcode hcall o.op a.tm σ)
      exact Ev.box_mono (fun r2 hr2 => hr.trans hr2) _ (ih _ _)
    · exact ih _ _
def Rc.tch (r : Rc) (k : Nat) : Prop := (r.lo ≤ k ∧ k < r.hi) ∨ k ∈ r.mods
theorem hideR_get (n : Nat) : ∀ (h : T SObj) (lo k : Nat), (hideR h lo n).get k = if lo ≤ k ∧ k < lo + n then none else h.get k := by
  induction n with
  | zero => intro h lo k; rw [if_neg (by omega)]; rfl
  | succ n ih =>
    intro h lo k
    rw [hideR, ih, T.get_set]
    by_cases e : k = lo
    · subst e
      rw [if_neg (by omega), if_pos rfl, if_pos (by omega)]
    · rw [if_neg e]
      by_cases h2 : lo + 1 ≤ k ∧ k < lo + 1 + n
      · rw [if_pos h2, if_pos (by omega)]
      · rw [if_neg h2, if_neg (by omega)]
theorem backR_get (old : T SObj) (n : Nat) : ∀ (h : T SObj) (lo k : Nat), (backR old h lo n).get k = if lo ≤ k ∧ k < lo + n then old.get k else h.get k := by
  induction n with
  | zero => intro h lo k; rw [if_neg (by omega)]; rfl
  | succ n ih =>
    intro h lo k
    rw [backR, ih, T.get_set]
    by_cases e : k = lo
    · subst e
      rw [if_neg (by omega), if_pos rfl, if_pos (by omega)]
    · rw [if_neg e]
      by_cases h2 : lo + 1 ≤ k ∧ k < lo + 1 + n
      · rw [if_pos h2, if_pos (by omega)]
      · rw [if_neg h2, if_neg (by omega)]
theorem foldSet_get (f : Nat → Option SObj) : ∀ (ms : List Nat) (h : T SObj) (k : Nat), (ms.foldl (fun h k => h.set k (f k)) h).get k = if k ∈ ms then f k else h.get k := by
  intro ms
  induction ms with
  | nil => intro h k; simp
  | cons m ms ih =>
    intro h k
    rw [List.foldl_cons, ih, T.get_set]
    by_cases h1 : k ∈ ms
    · rw [if_pos h1, if_pos (List.mem_cons_of_mem _ h1)]
    · rw [if_neg h1]
      by_cases h2 : k = m
      · subst h2; rw [if_pos rfl, if_pos List.mem_cons_self]
      · rw [if_neg h2, if_neg (by simp [h1, h2])]
open Classical in
theorem hide_get (h : T SObj) (r : Rc) (k : Nat) : (hide h r).get k = if r.tch k then none else h.get k := by
  unfold hide
  rw [foldSet_get (fun _ => none), hideR_get]
  by_cases h1 : k ∈ r.mods
  · rw [if_pos h1, if_pos (.inr h1)]
  · rw [if_neg h1]
    by_cases h2 : r.lo ≤ k ∧ k < r.lo + (r.hi - r.lo)
    · rw [if_pos h2, if_pos (.inl (by omega))]
    · rw [if_neg h2, if_neg (fun ht => ht.elim (fun x => h2 (by omega)) h1)]
open Classical in
theorem back_get (old h : T SObj) (r : Rc) (k : Nat) : (back old h r).get k = if r.tch k then old.get k else h.get k := by
  unfold back
  rw [foldSet_get (fun k => old.get k), backR_get]
  by_cases h1 : k ∈ r.mods
  · rw [if_pos h1, if_pos (.inr h1)]
  · rw [if_neg h1]
    by_cases h2 : r.lo ≤ k ∧ k < r.lo + (r.hi - r.lo)
    · rw [if_pos h2, if_pos (.inl (by omega))]
    · rw [if_neg h2, if_neg (fun ht => ht.elim (fun x => h2 (by omega)) h1)]
open Classical in
theorem hides_get : ∀ (rs : List Rc) (h : T SObj) (k : Nat), (rs.foldl hide h).get k = if ∃ r ∈ rs, r.tch k then none else h.get k := by
  intro rs
  induction rs with
  | nil => intro h k; simp
  | cons r rs ih =>
    intro h k
    rw [List.foldl_cons, ih, hide_get]
    by_cases h1 : ∃ r ∈ rs, r.tch k
    · rw [if_pos h1, if_pos (let ⟨r, h2, h3⟩ := h1; ⟨r, List.mem_cons_of_mem _ h2, h3⟩)]
    · rw [if_neg h1]
      by_cases h2 : r.tch k
      · rw [if_pos h2, if_pos ⟨r, List.mem_cons_self, h2⟩]
      · rw [if_neg h2, if_neg]
        rintro ⟨q, h3, h4⟩
        rcases List.mem_cons.1 h3 with rfl | h3
        · exact h2 h4
        · exact h1 ⟨q, h3, h4⟩
open Classical in
theorem backs_get (old : T SObj) : ∀ (rs : List Rc) (h : T SObj) (k : Nat), (rs.foldl (back old) h).get k = if ∃ r ∈ rs, r.tch k then old.get k else h.get k := by
  intro rs
  induction rs with
  | nil => intro h k; simp
  | cons r rs ih =>
    intro h k
    rw [List.foldl_cons, ih, back_get]
    by_cases h1 : ∃ r ∈ rs, r.tch k
    · rw [if_pos h1, if_pos (let ⟨r, h2, h3⟩ := h1; ⟨r, List.mem_cons_of_mem _ h2, h3⟩)]
    · rw [if_neg h1]
      by_cases h2 : r.tch k
      · rw [if_pos h2, if_pos ⟨r, List.mem_cons_self, h2⟩]
      · rw [if_neg h2, if_neg]
        rintro ⟨q, h3, h4⟩
        rcases List.mem_cons.1 h3 with rfl | h3
        · exact h2 h4
        · exact h1 ⟨q, h3, h4⟩
/-- One operation of a region without order. -/
noncomputable def viewOf (hid : List Rc) (σ : SSt) : SSt := { heap := hid.foldl hide σ.heap, next := σ.next, mark := σ.next, mods := [] }
noncomputable def joinOf (hid : List Rc) (σ σ' : SSt) : SSt := { heap := hid.foldl (back σ.heap) σ'.heap, next := σ'.next, mark := σ.mark, mods := σ'.mods.filter (Nat.blt · σ.mark) ++ σ.mods }
theorem join_stp {hid : List Rc} {σ σ' : SSt} (h : Stp (viewOf hid σ) σ') : Stp σ (joinOf hid σ σ') := by
  intro hm
  have h := h (Nat.le_refl _)
  have hv : ∀ k, (viewOf hid σ).heap.get k = _ := fun k => hides_get hid σ.heap k
  have hj : ∀ k, (joinOf hid σ σ').heap.get k = _ := fun k => backs_get σ.heap hid σ'.heap k
  refine ⟨h.next, rfl, fun k hk => List.mem_append_right _ hk, fun k hk => ?_, fun k hk hne => ?_, fun k hk hd => ?_, fun ha k hk => ?_⟩
  · rcases List.mem_append.1 hk with hk | hk
    · obtain ⟨h1, h2⟩ := List.mem_filter.1 hk
      rcases h.mods k h1 with h3 | ⟨_, h4⟩
      · cases h3
      · refine .inr ⟨of_blt h2, fun h5 => h4 ?_⟩
        rw [hv]
        split
        · rfl
        · exact h5
    · exact .inl hk
  · rw [hj] at hne
    split at hne
    · exact absurd rfl hne
    · rename_i hnt
      have h1 : (viewOf hid σ).heap.get k = σ.heap.get k := by rw [hv, if_neg hnt]
      rw [← h1] at hne
      have h2 := h.chg k (Nat.lt_of_lt_of_le hk hm) hne
      exact List.mem_append_left _ (List.mem_filter.2 ⟨h2, bltT hk⟩)
  · rw [hj]
    split
    · exact hd
    · rename_i hnt
      exact h.dead k hk (by rw [hv, if_neg hnt]; exact hd)
  · rw [hj]
    split
    · exact ha k (Nat.le_trans h.next hk)
    · refine h.above (fun j hj => ?_) k hk
      rw [hv]
      split
      · rfl
      · exact ha j hj
include hcode hcall in
theorem evDraw_stp : ∀ (ops : List (SOper × Nat)) (i loud : Nat) (rs : List Rc) (lk : List (Nat × Nat)) (a : SAct) (σ : SSt), (evDraw E code call ops i loud rs lk a σ).box fun r => Stp σ r.2 := by
  intro ops
  induction ops with
  | nil => intro i loud rs lk a σ; exact Stp.refl _
  | cons p os ih =>
    obtain ⟨o, bm⟩ := p
    intro i loud rs lk a σ
    unfold evDraw
    split
    · exact ih _ _ _ _ _ _
    · split
      · rw [Ev.box_bind]
        exact Ev.box_mono (fun r hr => ih _ _ _ _ _ _) _ (evOp_stp hcode hcall o.op a.tm σ)
      · split
        · split
          · exact ih _ _ _ _ _ _
          · exact trivial
        · have h1 := evOp_stp (E := E) hcode hcall o.op a.tm (viewOf (rs.filter fun r => !bm.testBit r.i) σ)
          simp only
          split
          · rename_i v σ' he
            have he' : evOp E o.op code call a.tm (viewOf (rs.filter fun r => !bm.testBit r.i) σ) = .ok (v, σ') := he
            rw [he'] at h1
            split
            · exact Ev.box_mono (fun r hr => (join_stp h1).trans hr) _ (ih _ _ _ _ _ _)
            · exact trivial
          · exact trivial
theorem rangeEnd_stp (l : Nat) (a : SAct) (r : SV × SSt) : (rangeEnd l a r).box fun q => Stp r.2 q.2.2 := by
  unfold rangeEnd
  split
  · rename_i L hg
    split
    · exact trivial
    · split
      · exact Stp.put hg _
      · exact Stp.put hg _
      · exact Stp.put hg _
  · exact trivial
include hcall in
theorem rangeGo_stp (f : SX) (ps : List Nat) (x y : SCode) (a : SAct) (m : Nat) (ds : List Nat) (σ : SSt) : (rangeGo f ps x y call a m ds σ).box fun r => Stp σ r.2.2 := by
  unfold rangeGo
  split
  · rw [Ev.box_bind]
    exact Ev.box_mono (fun r hr => Ev.box_mono (fun q hq => ((Stp.alloc _ _).trans hr).trans hq) _ (rangeEnd_stp _ _ r)) _ (hcall _ _ _)
  · exact trivial
include hcall in
theorem evRange_stp (f : SX) (ps : List Nat) (x y : SCode) (a : SAct) (σ : SSt) : (evRange f ps x y code call a σ).box fun r => Stp σ r.2.2 := by
  unfold evRange
  split
  · exact Ev.box_mono (fun r hr => (Stp.alloc _ _).trans hr) _ (rangeGo_stp hcall _ _ _ _ _ _ _ _)
  · split
    · exact rangeGo_stp hcall _ _ _ _ _ _ _ _
    · exact trivial
include hcode hcall in
theorem evCode_stp : CodeStp (fun c => evCode E c code call) := by
  intro c a σ
  cases c with
  | skip => exact Stp.refl _
  | region ops =>
    simp only [evCode, cRegion]
    rw [Ev.box_bind]
    exact Ev.box_mono (fun r hr => hr) _ (evOps_stp hcode hcall ops a σ)
  | draw ops =>
    simp only [evCode, cDraw]
    rw [Ev.box_bind]
    exact Ev.box_mono (fun r hr => hr) _ (evDraw_stp hcode hcall ops 0 0 [] [] a σ)
  | seq x y =>
    simp only [evCode, cSeq]
    rw [Ev.box_bind]
    refine Ev.box_mono (fun r hr => ?_) _ (hcode x a σ)
    obtain ⟨e, a1, σ1⟩ := r
    simp only at hr ⊢
    split
    · exact Ev.box_mono (fun r2 hr2 => hr.trans hr2) _ (hcode _ _ _)
    · exact hr
  | cond x c d =>
    simp only [evCode, cCond]
    split
    · split
      · exact hcode _ _ _
      · exact hcode _ _ _
    · exact trivial
  | block id c =>
    simp only [evCode, cBlock]
    rw [Ev.box_bind]
    refine Ev.box_mono (fun r hr => ?_) _ (hcode c a σ)
    obtain ⟨e, a1, σ1⟩ := r
    simp only at hr ⊢
    split
    · exact hr
    · exact hr
  | loop c =>
    simp only [evCode, cLoop]
    rw [Ev.box_bind]
    refine Ev.box_mono (fun r hr => ?_) _ (hcode c a σ)
    obtain ⟨e, a1, σ1⟩ := r
    simp only at hr ⊢
    split
    · exact Ev.box_mono (fun r2 hr2 => hr.trans hr2) _ (hcode _ _ _)
    · exact hr
  | rangeFunc f ps x y => exact evRange_stp (code := code) hcall f ps x y a σ
  | exit id => exact Stp.refl _
  | scope c => exact hcode c a σ
  | ret => exact Stp.refl _
  | bad => exact trivial
theorem takeMarks_stp : ∀ (ms : List Nat) (σ σ' : SSt), takeMarks ms σ = some σ' → Stp σ σ' := by
  intro ms
  induction ms with
  | nil => intro σ σ' h; cases h; exact Stp.refl _
  | cons m ms ih =>
    intro σ σ' h
    unfold takeMarks at h
    split at h
    · rename_i hg
      exact (Stp.put hg none).trans (ih _ _ h)
    · cases h
def SpecStp (E : Env) : Prop := ∀ f g, E.spec f = some g → ∀ args σ, (g args σ).box fun r => Stp σ r.2
theorem callEnd_stp (E : Env) (rs : List SRes) (r : SExit × SAct × SSt) : (callEnd E rs r).box fun q => Stp r.2.2 q.2 := by
  unfold callEnd
  split
  · exact trivial
  · cases ht : takeMarks r.2.1.defers r.2.2 with
    | none => exact trivial
    | some σ2 =>
      have h2 := takeMarks_stp _ _ _ ht
      simp only [callLeave]
      split
      · exact h2
      · exact trivial
include hcode in
theorem evCall_stp (hs : SpecStp E) : CallStp (evCall E code) := by
  intro f args σ
  unfold evCall
  split
  · rename_i g hg
    exact hs f g hg args σ
  · split
    · split
      · exact Stp.refl _
      · exact trivial
    · rw [Ev.box_bind]
      exact Ev.box_mono (fun r hr => Ev.box_mono (fun q hq => hr.trans hq) _ (callEnd_stp E _ r)) _ (hcode _ _ σ)
    · exact trivial
theorem evN_stp (hs : SpecStp E) (n : Nat) : CodeStp (evN E n).1 ∧ CallStp (evN E n).2 := by
  induction n with
  | zero => exact ⟨fun _ _ _ => trivial, fun _ _ _ => trivial⟩
  | succ n ih => exact ⟨evCode_stp ih.1 ih.2, evCall_stp ih.1 hs⟩
end
end Go.Sh
