/-
  The shadow machine, part H: reading, making, writing blocks, here and in the model.
-/
import Derived.Test.YthfijonopinghaaGreatDoorShG
set_option linter.unusedSimpArgs false
set_option linter.unusedVariables false
namespace Go.Sh
section
variable {C : Cx} {ρ ρ' : Ren} {σ : SSt} {w w' : World}

theorem EsR.mono {P : Program} {B : Nat} {sh sh' : Shp} (hs : ∀ b p, sh b = some p → sh' b = some p) (hρ : ∀ k p, ρ k = some p → ρ' k = some p) : ∀ {es : List (SV × SV × Nat)} {rs : List MapEntry}, EsR P B sh ρ es rs → EsR P B sh' ρ' es rs
  | _, _, .nil => .nil
  | _, _, .cons hk hv hb h => .cons (hk.mono hs hρ) (hv.mono hs hρ) hb (EsR.mono hs hρ h)
theorem ObjR.mono {P : Program} {B : Nat} (hs : ∀ b p, World.shp w b = some p → World.shp w' b = some p) (hρ : ∀ k p, ρ k = some p → ρ' k = some p) {o : SObj} {b off : Nat} (hw : w'.heap[b]? = w.heap[b]?) (h : ObjR P B ρ w o b off) : ObjR P B ρ' w' o b off := by
  cases o with
  | cells t n e =>
    obtain ⟨c, fr, h1, h2, h3, h4⟩ := h
    exact ⟨c, fr, hw.trans h1, h2, h3, fun i v hi => let ⟨r, h5, h6⟩ := h4 i v hi; ⟨r, h5, h6.mono hs hρ⟩⟩
  | map es clock =>
    obtain ⟨h0, rs, h1, h2⟩ := h
    exact ⟨h0, rs, hw.trans h1, h2.mono hs hρ⟩
  | strIter s pos =>
    obtain ⟨h0, bs, h1, h2⟩ := h
    exact ⟨h0, bs, h1, hw.trans h2⟩
  | mapIter m since seen last =>
    obtain ⟨h0, rm, h1, h2⟩ := h
    refine ⟨h0, rm, hw.trans h1, ?_⟩
    cases m with
    | none => exact h2
    | some k => obtain ⟨rb, h3, h4⟩ := h2; exact ⟨rb, h3, hρ _ _ h4⟩
  | loop L =>
    obtain ⟨h0, R, h1, h2⟩ := h
    exact ⟨h0, R, hw.trans h1, ⟨h2.state, h2.pending, fun t => (h2.tm t).mono hs hρ, h2.params, h2.comp, hρ _ _ h2.defers⟩⟩
  | marker => exact ⟨h.1, hw.trans h.2⟩
theorem ObjR.lt {P : Program} {B : Nat} {o : SObj} {b off : Nat} (h : ObjR P B ρ w o b off) : b < w.heap.size := by
  have key : ∀ {x : Obj}, w.heap[b]? = some x → b < w.heap.size := fun hx => (Array.getElem?_eq_some_iff.1 hx).1
  cases o with
  | cells t n e => obtain ⟨c, fr, h1, _⟩ := h; exact key h1
  | map es clock => obtain ⟨_, rs, h1, _⟩ := h; exact key h1
  | strIter s pos => obtain ⟨_, bs, _, h1⟩ := h; exact key h1
  | mapIter m since seen last => obtain ⟨_, rm, h1, _⟩ := h; exact key h1
  | loop L => obtain ⟨_, R, h1, _⟩ := h; exact key h1
  | marker => exact key h.2

def upd (ρ : Ren) (k : Nat) (p : Nat × Nat) : Ren := fun i => if i = k then some p else ρ i
theorem upd_same (ρ : Ren) (k : Nat) (p : Nat × Nat) : upd ρ k p k = some p := if_pos rfl
theorem upd_ne (ρ : Ren) {k i : Nat} (p : Nat × Nat) (h : i ≠ k) : upd ρ k p i = ρ i := if_neg h
theorem upd_ext (ρ : Ren) {k : Nat} (p : Nat × Nat) (h : ρ k = none) : ∀ i q, ρ i = some q → upd ρ k p i = some q := by
  intro i q hi
  have : i ≠ k := fun e => by subst e; rw [h] at hi; cases hi
  rw [upd_ne _ _ this]; exact hi

theorem heap_push (w : World) (o : Obj) (b : Nat) (hb : b < w.heap.size) : (w.alloc o).heap[b]? = w.heap[b]? := by
  show (w.heap.push o)[b]? = _
  rw [Array.getElem?_push]
  have : b ≠ w.heap.size := by omega
  simp [this]
theorem heap_push_new (w : World) (o : Obj) : (w.alloc o).heap[w.heap.size]? = some o := by
  show (w.heap.push o)[w.heap.size]? = _
  simp
theorem shape_of_heap {b : Nat} (h : w'.heap[b]? = w.heap[b]?) : w'.shape? b = w.shape? b := by unfold World.shape?; rw [h]
theorem shape_lt {b : Nat} {p : TypeId × Nat} (h : w.shape? b = some p) : b < w.heap.size := by
  unfold World.shape? at h
  split at h
  · rename_i c e hx; exact (Array.getElem?_eq_some_iff.1 ‹_›).1
  · cases h
theorem cell_of_heap {a : Addr} (h : w'.heap[a.block]? = w.heap[a.block]?) : w'.cell? a = w.cell? a := by unfold World.cell?; rw [h]
theorem cell_lt {a : Addr} {v : Value} (h : w.cell? a = some v) : a.block < w.heap.size := World.block_lt_of_cell? w a h

theorem Sim.old {k : Nat} {o : SObj} (h : Sim C ρ σ w) (hk : σ.heap.get k = some o) : ∃ b off, ρ k = some (b, off) ∧ b < w.heap.size := by
  obtain ⟨b, off, h1, _, h3⟩ := h.objs k o hk
  exact ⟨b, off, h1, h3.lt⟩
/-- A new block. -/
theorem Ok.new (h : Sim C ρ σ w) (hf : ρ σ.next = none) {o : SObj} {ro : Obj} {off : Nat}
    (ho : ObjR C.P C.B (upd ρ σ.next (w.heap.size, off)) (w.alloc ro) o w.heap.size off) : Ok C ρ σ w (upd ρ σ.next (w.heap.size, off)) (σ.alloc o) (w.alloc ro) := by
  have hsz : (w.alloc ro).heap.size = w.heap.size + 1 := by simp
  have hsh : ∀ b p, World.shp w b = some p → World.shp (w.alloc ro) b = some p := fun b p hb => (shape_of_heap (heap_push w ro b (shape_lt hb))).trans hb
  have hext := upd_ext ρ (w.heap.size, off) hf
  have hget : ∀ k, (σ.alloc o).heap.get k = if k = σ.next then some o else σ.heap.get k := fun k => T.get_set _ _ _ _
  refine ⟨hext, fun k hk => ?_, fun k o' b f hg hr => ?_, ⟨fun k o' hg => ?_, fun k k' o1 o2 b f f' hg hg' hr hr' => ?_, fun b i v hv => ?_, ?_⟩, ⟨rfl, rfl, rfl, by rw [hsz]; omega, fun b hb _ => heap_push w ro b hb, hsh⟩, Nat.le_succ _⟩
  · have : k = σ.next := by
      by_cases e : k = σ.next
      · exact e
      · exact absurd (upd_ne ρ _ e) hk
    subst this
    exact ⟨Nat.le_refl _, Nat.lt_succ_self _⟩
  · rw [hget] at hg
    by_cases e : k = σ.next
    · subst e
      rw [upd_same] at hr
      cases hr
      exact .inl (Nat.le_refl _)
    · rw [if_neg e] at hg
      rw [upd_ne _ _ e] at hr
      exact .inr ⟨k, o', f, hg, hr⟩
  · rw [hget] at hg
    by_cases e : k = σ.next
    · subst e
      rw [if_pos rfl] at hg
      cases hg
      exact ⟨_, _, upd_same _ _ _, h.size, ho⟩
    · rw [if_neg e] at hg
      obtain ⟨b, f, h1, h2, h3⟩ := h.objs k o' hg
      exact ⟨b, f, by rw [upd_ne _ _ e]; exact h1, h2, h3.mono hsh hext (heap_push w ro b h3.lt)⟩
  · rw [hget] at hg hg'
    by_cases e : k = σ.next
    · by_cases e' : k' = σ.next
      · rw [e, e']
      · subst e
        rw [upd_same] at hr
        cases hr
        rw [if_neg e'] at hg'
        rw [upd_ne _ _ e'] at hr'
        obtain ⟨b', f2, h1, h2⟩ := h.old hg'
        rw [hr'] at h1
        cases h1
        omega
    · rw [if_neg e] at hg
      rw [upd_ne _ _ e] at hr
      by_cases e' : k' = σ.next
      · subst e'
        rw [upd_same] at hr'
        cases hr'
        obtain ⟨b', f2, h1, h2⟩ := h.old hg
        rw [hr] at h1
        cases h1
        omega
      · rw [if_neg e'] at hg'
        rw [upd_ne _ _ e'] at hr'
        exact h.inj k k' o1 o2 b f f' hg hg' hr hr'
  · obtain ⟨h1, r, h2, h3⟩ := h.base b i v hv
    exact ⟨h1, r, (cell_of_heap (heap_push w ro b (cell_lt h2))).trans h2, h3.mono hsh hext⟩
  · rw [hsz]; have := h.size; omega
theorem tget_putList0 {α : Type} (xs : List α) (i : Nat) : ((T.e : T α).putList 0 xs).get i = xs[i]? := by
  rw [T.get_putList]
  by_cases h : i < xs.length
  · rw [if_pos ⟨Nat.zero_le _, by omega⟩]; simp
  · rw [if_neg (by omega), T.get_e]; simp; omega
/-- A new row of cells: what is known of it, and what may lie behind. -/
theorem Ok.newCells (h : Sim C ρ σ w) (hf : ρ σ.next = none) {e : TypeId} {cs : List SV} {rs rest : List Value} (hv : VRs C.P C.B (World.shp w) ρ cs rs) :
    Ok C ρ σ w (upd ρ σ.next (w.heap.size, 0)) (σ.newCells e cs) (w.alloc (.cells (rs ++ rest).toArray e)) := by
  refine Ok.new h hf ⟨(rs ++ rest).toArray, (0, 0), heap_push_new _ _, .inl rfl, by simp; have := hv.length; omega, fun i v hi => ?_⟩
  rw [tget_putList0] at hi
  obtain ⟨r, h1, h2⟩ := hv.get hi
  refine ⟨r, ?_, h2.mono (fun b p hb => (shape_of_heap (heap_push w _ b (shape_lt hb))).trans hb) (upd_ext ρ _ hf)⟩
  have : i < rs.length := (List.getElem?_eq_some_iff.1 h1).1
  simp [List.getElem?_append_left this, h1]

/-! ### Reading -/
theorem rd_sound (h : Sim C ρ σ w) {a : SA} {r : Addr} (ha : AR ρ a r) {i : Nat} {v : SV} (hv : rd C.E σ a i = some v) : ∃ rv, w.cell? (r.add i) = some rv ∧ VR C.P C.B (World.shp w) ρ v rv := by
  have hr : r.add i = ⟨r.block, r.off + i, none⟩ := by
    have := ha.1
    unfold Addr.add
    split
    · rename_i h0; subst h0; cases r; simp_all
    · rfl
  rw [hr]
  obtain ⟨h1, h2⟩ := ha
  unfold rd at hv
  cases hb : a.base with
  | true =>
    simp only [hb] at h2 hv
    obtain ⟨_, rv, h3, h4⟩ := h.base _ _ _ hv
    exact ⟨rv, by rw [h2.1, h2.2]; exact h3, h4⟩
  | false =>
    simp only [hb] at h2 hv
    obtain ⟨o, h3, h4⟩ := h2
    split at hv
    · rename_i t n e hg
      obtain ⟨b, off, h5, _, c, fr, h6, _, _, h7⟩ := h.objs _ _ hg
      rw [h3] at h5
      cases h5
      obtain ⟨rv, h8, h9⟩ := h7 _ _ hv
      refine ⟨rv, ?_, h9⟩
      simp only [World.cell?, h6, Option.isSome_none, Bool.false_eq_true, if_false]
      rw [h4, Nat.add_assoc]
      exact h8
    · cases hv
theorem rdL_sound (h : Sim C ρ σ w) {a : SA} {r : Addr} (ha : AR ρ a r) : ∀ (n i : Nat) (vs : List SV) (acc : Array Value), rdL C.E σ a i n = some vs → ∃ rs : List Value, (loadCellsFrom r i n acc).run C.P w = .ok (acc ++ rs.toArray) w ∧ VRs C.P C.B (World.shp w) ρ vs rs ∧ rs.length = n := by
  intro n
  induction n with
  | zero => intro i vs acc hv; simp [rdL] at hv; subst hv; exact ⟨[], by simp [loadCellsFrom], .nil, rfl⟩
  | succ n ih =>
    intro i vs acc hv
    unfold rdL at hv
    split at hv
    · cases hv
    · rename_i v hv1
      split at hv
      · cases hv
      · rename_i us hus
        cases hv
        obtain ⟨rv, h1, h2⟩ := rd_sound h ha hv1
        obtain ⟨rs, h3, h4, h5⟩ := ih (i + 1) us (acc.push rv) hus
        refine ⟨rv :: rs, ?_, .cons h2 h4, by simp [h5]⟩
        have hl : (load (r.add i)).run C.P w = .ok rv w := by simp [load, Sem.run, h1]
        simp only [loadCellsFrom, Sem.run_bind, hl, Result.andThen_ok, h3]
        simp
theorem loadCells_sound (h : Sim C ρ σ w) {a : SA} {r : Addr} (ha : AR ρ a r) {n : Nat} {vs : List SV} (hv : rdL C.E σ a 0 n = some vs) : ∃ rs : List Value, (loadCells r n).run C.P w = .ok rs.toArray w ∧ VRs C.P C.B (World.shp w) ρ vs rs ∧ rs.length = n := by
  obtain ⟨rs, h1, h2, h3⟩ := rdL_sound h ha n 0 vs #[] hv
  exact ⟨rs, by simpa [loadCells] using h1, h2, h3⟩
theorem rdVar_sound (h : Sim C ρ σ w) {a : SA} {r : Addr} (ha : AR ρ a r) {t : TypeId} {g : Option Nat} (hg : aggT C.P t = some g) {v : SV} (hv : rdVar C.E σ g a = some v) : ∃ rv, (loadVar t r).run C.P w = .ok rv w ∧ VR C.P C.B (World.shp w) ρ v rv := by
  obtain ⟨h1, h2⟩ := run_isAgg hg w
  cases g with
  | none =>
    obtain ⟨rv, h3, h4⟩ := rd_sound h ha hv
    have : r.add 0 = r := by simp [Addr.add]
    rw [this] at h3
    refine ⟨rv, ?_, h4⟩
    simp [loadVar, Sem.run_bind, h1, load, Sem.run, h3]
  | some n =>
    simp only [rdVar, Option.map_eq_some_iff] at hv
    obtain ⟨vs, hvs, rfl⟩ := hv
    obtain ⟨rs, h3, h4, _⟩ := loadCells_sound h ha hvs
    exact ⟨.agg rs.toArray, by simp [loadVar, Sem.run_bind, h1, h2 n rfl, h3], .agg h4⟩

/-! ### Writing -/
theorem vr_one {P : Program} {B : Nat} {sh : Shp} {v : SV} {r : Value} (h : VR P B sh ρ v r) (h1 : v.one = true) : (∀ cs, r ≠ .agg cs) ∧ (∀ cs, r ≠ .tuple cs) := by
  cases h <;> first | (simp [SV.one] at h1; done) | exact ⟨by simp, by simp⟩
theorem run_store1 (P : Program) {w : World} {a : Addr} {r old : Value} (h1 : ∀ cs, r ≠ .agg cs) (h2 : ∀ cs, r ≠ .tuple cs) (hc : w.cell? a = some old) (hf : w.frozen? a = false) : (store a r).run P w = .ok () (w.setCell a r) := by
  cases r <;> first | exact (h1 _ rfl).elim | exact (h2 _ rfl).elim | simp [store, Sem.run, hc, hf]
def World.putO (w : World) (b : Nat) (o : Obj) : World := { w with heap := w.heap.setIfInBounds b o }
theorem putO_heap (w : World) (b : Nat) (o : Obj) (j : Nat) (hb : b < w.heap.size) : (World.putO w b o).heap[j]? = if j = b then some o else w.heap[j]? := by
  simp only [World.putO, Array.getElem?_setIfInBounds]
  by_cases h : j = b
  · subst h; simp [hb]
  · simp [h, Ne.symm h]
theorem putO_putO (w : World) (b : Nat) (o o' : Obj) : World.putO (World.putO w b o) b o' = World.putO w b o' := by simp [World.putO]
theorem putO_same (w : World) (b : Nat) (o : Obj) (h : w.heap[b]? = some o) : World.putO w b o = w := by
  have hb := (Array.getElem?_eq_some_iff.1 h)
  obtain ⟨hb, he⟩ := hb
  have : w.heap.setIfInBounds b o = w.heap := by
    apply Array.ext
    · simp
    · intro i h1 h2
      rw [Array.getElem_setIfInBounds]
      by_cases hi : b = i
      · subst hi; rw [if_pos rfl]; exact he.symm
      · rw [if_neg hi]
  simp [World.putO, this]
theorem setCell_putO {w : World} {b off : Nat} {c : Array Value} {e : TypeId} {fr : Nat × Nat} (h : w.heap[b]? = some (.cells c e fr)) (v : Value) : w.setCell ⟨b, off, none⟩ v = World.putO w b (.cells (c.setIfInBounds off v) e fr) := by
  obtain ⟨hb, he⟩ := Array.getElem?_eq_some_iff.1 h
  simp only [World.setCell, World.putO]
  congr 1
  apply Array.ext
  · simp
  · intro i h1 h2
    rw [Array.getElem_setIfInBounds, Array.getElem_modify]
    by_cases hi : b = i
    · subst hi; simp [he]
    · rw [if_neg hi, if_neg hi]
theorem run_storeCells (P : Program) {b off : Nat} {e : TypeId} {fr : Nat × Nat} : ∀ (rs : List Value) (i : Nat) (w : World) (c : Array Value), w.heap[b]? = some (.cells c e fr) → (∀ i, i < c.size → ¬(fr.1 ≤ i ∧ i < fr.2)) →
    (∀ r ∈ rs, (∀ cs, r ≠ .agg cs) ∧ (∀ cs, r ≠ .tuple cs)) → off + i + rs.length ≤ c.size →
    ∃ c', c'.size = c.size ∧ (∀ j, c'[j]? = if off + i ≤ j ∧ j < off + i + rs.length then rs[j - (off + i)]? else c[j]?) ∧ (storeCells ⟨b, off, none⟩ rs i).run P w = .ok () (World.putO w b (.cells c' e fr)) := by
  intro rs
  induction rs with
  | nil =>
    intro i w c hw hfr hr hb
    refine ⟨c, rfl, fun j => ?_, ?_⟩
    · rw [if_neg (by simp)]
    · rw [putO_same w b _ hw]; rfl
  | cons r rs ih =>
    intro i w c hw hfr hr hb
    simp only [List.length_cons] at hb
    have ha : (⟨b, off, none⟩ : Addr).add i = ⟨b, off + i, none⟩ := by
      unfold Addr.add
      split
      · rename_i h0; subst h0; rfl
      · rfl
    have hlt : off + i < c.size := by omega
    have hcell : w.cell? ⟨b, off + i, none⟩ = some c[off + i] := by simp [World.cell?, hw, hlt]
    have hfz : w.frozen? ⟨b, off + i, none⟩ = false := by
      have := hfr (off + i) hlt
      obtain ⟨lo, hi⟩ := fr
      simp only [World.frozen?, hw]
      simp at this ⊢
      exact this
    have h1 := hr r (List.mem_cons_self)
    have hs := run_store1 P h1.1 h1.2 hcell hfz
    rw [setCell_putO hw] at hs
    have hw1 : (World.putO w b (.cells (c.setIfInBounds (off + i) r) e fr)).heap[b]? = some (.cells (c.setIfInBounds (off + i) r) e fr) := by
      rw [putO_heap _ _ _ _ (Array.getElem?_eq_some_iff.1 hw).1]; simp
    obtain ⟨c', e1, e2, e3⟩ := ih (i + 1) _ (c.setIfInBounds (off + i) r) hw1 (fun j hj => hfr j (by simpa using hj)) (fun x hx => hr x (List.mem_cons_of_mem _ hx)) (by simp; omega)
    refine ⟨c', by simpa using e1, fun j => ?_, ?_⟩
    · rw [e2]
      simp only [List.length_cons]
      by_cases hj : j = off + i
      · subst hj
        rw [if_neg (by omega), if_pos (by omega)]
        simp [hlt]
      · by_cases hj2 : off + (i + 1) ≤ j ∧ j < off + (i + 1) + rs.length
        · rw [if_pos hj2, if_pos (by omega)]
          have : j - (off + i) = (j - (off + (i + 1))) + 1 := by omega
          rw [this]; simp
        · rw [if_neg hj2, if_neg (by omega)]
          simp [Array.getElem?_setIfInBounds, Ne.symm hj]
    · simp only [storeCells, Sem.run_bind, ha, hs, Result.andThen_ok, e3, putO_putO]
/-- A block that is there is turned. -/
theorem Ok.put (h : Sim C ρ σ w) {k : Nat} {o o' : SObj} {b off : Nat} (hk : σ.heap.get k = some o) (hr : ρ k = some (b, off)) {ro : Obj} (hs : ∀ p, w.shape? b = some p → (World.putO w b ro).shape? b = some p)
    (ho : (∀ j p, World.shp w j = some p → World.shp (World.putO w b ro) j = some p) → ObjR C.P C.B ρ (World.putO w b ro) o' b off) : Ok C ρ σ w ρ (σ.put k (some o')) (World.putO w b ro) := by
  obtain ⟨b', off', h1, h2, h3⟩ := h.objs k o hk
  rw [hr] at h1
  cases h1
  have hb := h3.lt
  have hheap := putO_heap w b ro
  have hsz : (World.putO w b ro).heap.size = w.heap.size := by simp [World.putO]
  have hsh : ∀ j p, World.shp w j = some p → World.shp (World.putO w b ro) j = some p := by
    intro j p hj
    by_cases e : j = b
    · subst e; exact hs p hj
    · exact (shape_of_heap (by rw [hheap j hb, if_neg e])).trans hj
  have hget : ∀ j, (σ.put k (some o')).heap.get j = if j = k then some o' else σ.heap.get j := fun j => T.get_set _ _ _ _
  have live : ∀ j o2, (σ.put k (some o')).heap.get j = some o2 → ∃ o3, σ.heap.get j = some o3 := by
    intro j o2 hj
    rw [hget] at hj
    by_cases e : j = k
    · subst e; exact ⟨o, hk⟩
    · rw [if_neg e] at hj; exact ⟨o2, hj⟩
  refine ⟨fun _ _ h => h, fun _ h => absurd rfl h, fun j o2 c f hg hr2 => ?_, ⟨fun j o2 hg => ?_, fun j j' o1 o2 c f f' hg hg' hr1 hr2 => ?_, fun c i v hv => ?_, by rw [hsz]; exact h.size⟩, ⟨rfl, rfl, rfl, by rw [hsz]; exact Nat.le_refl _, fun c hc hn => ?_, hsh⟩, Nat.le_refl _⟩
  · obtain ⟨o3, h4⟩ := live j o2 hg
    exact .inr ⟨j, o3, f, h4, hr2⟩
  · rw [hget] at hg
    by_cases e : j = k
    · subst e
      rw [if_pos rfl] at hg
      cases hg
      exact ⟨b, off, hr, h2, ho hsh⟩
    · rw [if_neg e] at hg
      obtain ⟨c, f, h4, h5, h6⟩ := h.objs j o2 hg
      refine ⟨c, f, h4, h5, h6.mono hsh (fun _ _ h => h) ?_⟩
      rw [hheap c hb, if_neg]
      intro e2
      subst e2
      exact e (h.inj j k _ _ c f off hg hk h4 hr)
  · obtain ⟨o3, h4⟩ := live j o1 hg
    obtain ⟨o4, h5⟩ := live j' o2 hg'
    exact h.inj j j' o3 o4 c f f' h4 h5 hr1 hr2
  · obtain ⟨h4, r, h5, h6⟩ := h.base c i v hv
    refine ⟨h4, r, (cell_of_heap ?_).trans h5, h6.mono hsh (fun _ _ h => h)⟩
    show (World.putO w b ro).heap[c]? = w.heap[c]?
    rw [hheap c hb, if_neg (by omega)]
  · rw [hheap c hb, if_neg]
    intro e
    subst e
    exact hn k o off hk hr
/-- A block is let go. -/
theorem Ok.kill (h : Sim C ρ σ w) (k : Nat) : Ok C ρ σ w ρ (σ.put k none) w := by
  have hget : ∀ j o, (σ.put k none).heap.get j = some o → σ.heap.get j = some o := by
    intro j o hj
    have : (σ.put k none).heap.get j = if j = k then none else σ.heap.get j := T.get_set _ _ _ _
    rw [this] at hj
    by_cases e : j = k
    · rw [if_pos e] at hj; cases hj
    · rw [if_neg e] at hj; exact hj
  exact ⟨fun _ _ h => h, fun _ h => absurd rfl h, fun j o b f hg hr => .inr ⟨j, o, f, hget _ _ hg, hr⟩, ⟨fun j o hg => h.objs j o (hget _ _ hg), fun j j' o o' b f f' hg hg' => h.inj j j' o o' b f f' (hget _ _ hg) (hget _ _ hg'), h.base, h.size⟩, Fr.refl _ _ _, Nat.le_refl _⟩
theorem wr_sound (h : Sim C ρ σ w) {a : SA} {r : Addr} (ha : AR ρ a r) {vs : List SV} {rs : List Value} (hv : VRs C.P C.B (World.shp w) ρ vs rs) {σ' : SSt} (hw : wr σ a vs = some σ') : ∃ w', (storeCells r rs).run C.P w = .ok () w' ∧ Ok C ρ σ w ρ σ' w' := by
  unfold wr at hw
  obtain ⟨ha1, ha2⟩ := ha
  cases hb : a.base with
  | true => simp only [hb] at hw; cases hw
  | false =>
    simp only [hb] at hw ha2
    obtain ⟨o, h3, h4⟩ := ha2
    split at hw
    · rename_i t n e hg
      split at hw
      · rename_i hc
        cases hw
        rw [Bool.and_eq_true] at hc
        obtain ⟨hc1, hc2⟩ := hc
        have hc1 : a.off + vs.length ≤ n := by simpa using hc1
        obtain ⟨b, off, h5, hB, c, fr, h6, h7, h8, h9⟩ := h.objs _ _ hg
        rw [h3] at h5
        cases h5
        have hr : r = ⟨r.block, r.off, none⟩ := by cases r; simp_all
        have hlen := hv.length
        have hone : ∀ x ∈ rs, (∀ cs, x ≠ .agg cs) ∧ (∀ cs, x ≠ .tuple cs) := by
          have key : ∀ (vs : List SV) (rs : List Value), VRs C.P C.B (World.shp w) ρ vs rs → vs.all SV.one = true → ∀ x ∈ rs, (∀ cs, x ≠ .agg cs) ∧ (∀ cs, x ≠ .tuple cs) := by
            intro vs
            induction vs with
            | nil => intro rs h _ x hx; cases h; cases hx
            | cons v vs ih =>
              intro rs h ha x hx
              cases h with
              | cons h1 h2 =>
                simp only [List.all_cons, Bool.and_eq_true] at ha
                cases hx with
                | head => exact vr_one h1 ha.1
                | tail _ hx => exact ih _ h2 ha.2 x hx
          exact key vs rs hv hc2
        obtain ⟨c', e1, e2, e3⟩ := run_storeCells C.P (off := r.off) rs 0 w c h6 (fun i hi hx => by omega) hone (by omega)
        rw [← hr] at e3
        refine ⟨_, e3, ?_⟩
        refine Ok.put h hg h3 (fun p hp => ?_) (fun hsh => ?_)
        · have h10 : (World.putO w r.block (.cells c' e fr)).heap[r.block]? = some (.cells c' e fr) := by rw [putO_heap _ _ _ _ (Array.getElem?_eq_some_iff.1 h6).1]; simp
          simp only [World.shape?, h6] at hp
          simp only [World.shape?, h10, e1]
          exact hp
        · have h10 : (World.putO w r.block (.cells c' e fr)).heap[r.block]? = some (.cells c' e fr) := by rw [putO_heap _ _ _ _ (Array.getElem?_eq_some_iff.1 h6).1]; simp
          refine ⟨c', fr, h10, by omega, by omega, fun i v hi => ?_⟩
          rw [T.get_putList] at hi
          rw [e2]
          simp only [Nat.add_zero]
          by_cases hin : a.off ≤ i ∧ i < a.off + vs.length
          · rw [if_pos hin] at hi
            rw [if_pos (by omega)]
            obtain ⟨rv, h11, h12⟩ := hv.get hi
            refine ⟨rv, ?_, h12.mono hsh (fun _ _ h => h)⟩
            rw [show o + i - r.off = i - a.off by omega]
            exact h11
          · rw [if_neg hin] at hi
            rw [if_neg (by omega)]
            obtain ⟨rv, h11, h12⟩ := h9 i v hi
            exact ⟨rv, h11, h12.mono hsh (fun _ _ h => h)⟩
      · cases hw
    · cases hw
end
end Go.Sh
