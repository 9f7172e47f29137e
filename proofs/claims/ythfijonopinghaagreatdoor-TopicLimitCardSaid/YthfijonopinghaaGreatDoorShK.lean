/-
  The shadow machine, part K: the operations with memory, third part: append, copy, clear.
-/
import Derived.Test.YthfijonopinghaaGreatDoorShJ
set_option linter.unusedSimpArgs false
set_option linter.unusedVariables false
namespace Go.Sh
section
variable {C : Cx} {ρ : Ren} {σ : SSt} {w : World} {hi : Nat} {Q : SV × SSt → Prop}

/-! ### Slices and strings that are read -/
theorem rdL_get {E : Env} {σ : SSt} {a : SA} : ∀ {n i : Nat} {vs : List SV}, rdL E σ a i n = some vs → vs.length = n ∧ ∀ (j : Nat) (v : SV), vs[j]? = some v → rd E σ a (i + j) = some v := by
  intro n
  induction n with
  | zero => intro i vs h; simp only [rdL, Option.some.injEq] at h; subst h; exact ⟨rfl, fun j v hj => by simp at hj⟩
  | succ n ih =>
    intro i vs h
    unfold rdL at h
    split at h
    · cases h
    · rename_i v hv
      split at h
      · cases h
      · rename_i us hus
        cases h
        obtain ⟨h1, h2⟩ := ih hus
        refine ⟨by simp [h1], fun j u hj => ?_⟩
        cases j with
        | zero => simp at hj; subst hj; exact hv
        | succ j =>
          have := h2 j u (by simpa using hj)
          rw [show i + (j + 1) = i + 1 + j by omega]
          exact this
theorem lenX_sound {P : Program} {B : Nat} {sh : Shp} {x : SV} {rx : Value} (hx : VR P B sh ρ x rx) {n : Nat} (h : lenX x = some n) (w : World) : (Builtin.lenOf rx).run P w = .ok n w := by
  cases hx <;> first | (simp [lenX] at h; done) | skip
  case str s => simp only [lenX, Option.some.injEq, Str.of_len] at h; subst h; rfl
  all_goals (simp only [lenX, Option.some.injEq] at h; subst h; rfl)
theorem cells_sound (h : Sim C ρ σ w) {size : Nat} {x : SV} {n m : Nat} {cs : List SV} (hc : cellsOfX C.E σ size x n = some cs) (hm : lenX x = some m) (hn : n ≤ m) {rx : Value} (hx : VR C.P C.B (World.shp w) ρ x rx) :
    ∃ rs : List Value, (Builtin.firstCells size n rx).run C.P w = .ok rs.toArray w ∧ VRs C.P C.B (World.shp w) ρ cs rs ∧ rs.length = n * size := by
  have ofSome : ∀ {a : SA} {r : Addr} {l c : Nat}, (n = 0 ∨ AR ρ a r) → rdL C.E σ a 0 (n * size) = some cs → rx = .slice (some r) l c → ∃ rs : List Value, (Builtin.firstCells size n rx).run C.P w = .ok rs.toArray w ∧ VRs C.P C.B (World.shp w) ρ cs rs ∧ rs.length = n * size := by
    intro a r l c har hr e
    subst e
    rcases har with rfl | har
    · simp [rdL] at hr
      subst hr
      exact ⟨[], by simp [Builtin.firstCells, loadCells, loadCellsFrom], .nil, by simp⟩
    · obtain ⟨rs, h1, h2, h3⟩ := loadCells_sound h har hr
      exact ⟨rs, h1, h2, h3⟩
  cases hx <;> first | (simp [lenX] at hm; done) | skip
  case str s =>
    simp only [lenX, Option.some.injEq, Str.of_len] at hm
    subst hm
    simp only [cellsOfX] at hc
    split at hc
    · rename_i h1
      cases hc
      have h1 := Nat.eq_of_beq_eq_true h1
      subst h1
      have h2 := strBytes_sound (P := C.P) (B := C.B) (sh := World.shp w) (ρ := ρ) s n hn
      refine ⟨_, by simp only [Builtin.firstCells, Sem.run_pure, Array.toArray_toList], h2, ?_⟩
      have : (s.extract 0 n).data.toList.length = n := by rw [Str.extract_toList]; simp [Str.data_length]; omega
      simp at this
      simp [this]
    · cases hc
  case sliceNil =>
    simp only [lenX, Option.some.injEq] at hm
    subst hm
    simp only [cellsOfX, Option.some.injEq] at hc
    subst hc
    have hn0 : n = 0 := by omega
    subst hn0
    exact ⟨[], by simp [Builtin.firstCells], .nil, by simp⟩
  case slice har => exact ofSome (.inr har) hc rfl
  case sliceU har _ _ _ _ _ => exact ofSome (.inr har) hc rfl
  case sliceZ =>
    simp only [lenX, Option.some.injEq] at hm
    subst hm
    exact ofSome (.inl (by omega)) hc rfl
  case sliceZ0 =>
    simp only [lenX, Option.some.injEq] at hm
    subst hm
    exact ofSome (.inl (by omega)) hc rfl

/-! ### What 'append' adds -/
/-- The elements that are added: a slice's or a string's, or zeros. -/
def Added (P : Program) (elem u : TypeId) (size bytes : Nat) (rx : Value) (n : Nat) : Prop :=
  ((∃ e, P.underlying u = some (.slice e)) ∨ P.underlying u = some .string) ∧ (∀ w, (Builtin.lenOf rx).run P w = .ok n w) ∨
  ∃ k k' m, P.underlying u = some (.int k) ∧ rx = .int k' m ∧ 0 ≤ m ∧ m < 2 ^ 47 ∧ m * bytes ≤ 2 ^ 47 ∧ n = m.toNat
def AddedAt (P : Program) (elem u : TypeId) (size : Nat) (rx : Value) (n : Nat) (w : World) (news : List Value) : Prop :=
  (((∃ e, P.underlying u = some (.slice e)) ∨ P.underlying u = some .string) → (Builtin.firstCells size n rx).run P w = .ok news.toArray w) ∧
  (∀ k, P.underlying u = some (.int k) → n * size ≠ 0 ∧ ∃ z, (zeroValue elem).run P w = .ok z w ∧ news.toArray = Builtin.zeroCells z.cells n)
section
variable {P : Program} {t u ty elem : TypeId} {size bytes : Nat} {i : TypeInfo} (ht : P.underlying t = some (.slice elem)) (hin : P.info? elem = some i) (hs : i.size = size) (hb : i.bytes = bytes)
theorem i64_small {m : Int} (h0 : 0 ≤ m) (h1 : m < 2 ^ 47) : IntKind.i64.wrap m = m := wrap_in .i64 m (by simp [loK]; omega) (by simp [hiK]; omega)
include ht hin hs hb in
theorem run_append_zero {rx : Value} {n : Nat} (ha : Added P elem u size bytes rx n) (hn : n = 0) {base : Option Addr} {len cap : Nat} (hc : len ≤ cap) (w : World)
    (h0 : ((∃ e, P.underlying u = some (.slice e)) ∨ P.underlying u = some .string) → (Builtin.firstCells size 0 rx).run P w = .ok #[] w) :
    (Builtin.append_ #[t, u] ty #[.slice base len cap, rx]).run P w = .ok (.slice base len cap) w := by
  subst hs hb hn
  rcases ha with ⟨hu, hl⟩ | ⟨k, k', m, hu, rfl, h1, h2, h3, h4⟩
  · have h5 := h0 hu
    rcases hu with ⟨e, hu⟩ | hu
    · cases base <;> simp [Builtin.append_, Sem.run_bind, run_underlying ht, run_underlying hu, sizeOf, typeInfo, hin, hl, hc, h5, storeCells]
    · cases base <;> simp [Builtin.append_, Sem.run_bind, run_underlying ht, run_underlying hu, sizeOf, typeInfo, hin, hl, hc, h5, storeCells]
  · have hm : m = 0 := by omega
    subst hm
    have w0 : IntKind.i64.wrap 0 = 0 := by decide
    cases base <;> simp [Builtin.append_, Sem.run_bind, run_underlying ht, run_underlying hu, sizeOf, typeInfo, hin, hc, storeCells, asInt, asIntOf, w0]
include ht hin hs hb in
theorem run_append_fit {rx : Value} {n : Nat} (ha : Added P elem u size bytes rx n) {a : Addr} {len cap : Nat} (hc : len + n ≤ cap) (w w' : World) {news : List Value} (hn : AddedAt P elem u size rx n w news)
    (hst : (storeCells (a.add (len * size)) news).run P w = .ok () w') :
    (Builtin.append_ #[t, u] ty #[.slice (some a) len cap, rx]).run P w = .ok (.slice (some a) (len + n) cap) w' := by
  subst hs hb
  rcases ha with ⟨hu, hl⟩ | ⟨k, k', m, hu, rfl, h1, h2, h3, h4⟩
  · have h5 := hn.1 hu
    rcases hu with ⟨e, hu⟩ | hu
    · simp [Builtin.append_, Sem.run_bind, run_underlying ht, run_underlying hu, sizeOf, typeInfo, hin, hl, hc, h5, hst]
    · simp [Builtin.append_, Sem.run_bind, run_underlying ht, run_underlying hu, sizeOf, typeInfo, hin, hl, hc, h5, hst]
  · obtain ⟨hne, z, hz, hnews⟩ := hn.2 k hu
    subst h4
    have n1 : ¬ m < 0 := by omega
    have n2 : ¬ (281474976710656 : Int) < m * i.bytes := by omega
    have hn2 : news = (Builtin.zeroCells z.cells m.toNat).toList := by rw [← hnews]
    rw [hn2] at hst
    have hne' : ¬ (m.toNat * i.size = 0) := hne
    simp only [Builtin.append_, Sem.run_bind, run_underlying ht, run_underlying hu, sizeOf, typeInfo, hin, hc, hz, asInt, asIntOf, i64_small h1 h2, n1, n2, hst, hne', Result.andThen_ok, if_true, if_false, Sem.run_pure, run_program, List.getElem?_toArray, List.getElem?_cons_zero, List.getElem?_cons_succ]
    simp [n1, n2, hne', hz, hst, hc, Sem.run_bind, typeInfo, hin, asInt, asIntOf, i64_small h1 h2]
include ht hin hs hb in
theorem run_append_more {rx : Value} {n : Nat} (ha : Added P elem u size bytes rx n) {base : Option Addr} {len cap : Nat} (hc : cap < len + n) (hbig : (2 * (len + n) + 1024) * bytes ≤ 2 ^ 47) (hpos : 0 < bytes) (w : World) {olds news : List Value} {z : Value}
    (ho : (Builtin.firstCells size len (.slice base len cap)).run P w.drew = .ok olds.toArray w.drew) (hn : AddedAt P elem u size rx n w.drew news) (hz : i.zero = some z) :
    (Builtin.append_ #[t, u] ty #[.slice base len cap, rx]).run P w =
      .ok (.slice (some ⟨w.heap.size, 0, none⟩) (len + n) (grownCap w (len + n) cap elem)) (w.drew.alloc (.cells (olds ++ news ++ (Builtin.zeroCells z.cells (grownCap w (len + n) cap elem - (len + n))).toList).toArray elem)) := by
  subst hs hb
  have c1 : ¬ (len + n ≤ cap) := by omega
  have hmul : (len + n) * i.bytes ≤ 2 ^ 47 := by
    refine Nat.le_trans (Nat.mul_le_mul_right _ ?_) hbig
    omega
  have hle : len + n ≤ 2 ^ 47 := by
    refine Nat.le_trans ?_ hmul
    exact Nat.le_mul_of_pos_right _ hpos
  have c2 : ¬ ((9223372036854775807 : Int) < ((len : Int) + (n : Int))) := by omega
  have c3 : ¬ (281474976710656 < Builtin.nextslicecap (len + n) cap * i.bytes) := by
    have := growslice_fits hc (bytes := i.bytes) (by omega)
    omega
  have fin : (olds.toArray ++ news.toArray ++ Builtin.zeroCells z.cells (grownCap w (len + n) cap elem - (len + n))) = (olds ++ news ++ (Builtin.zeroCells z.cells (grownCap w (len + n) cap elem - (len + n))).toList).toArray := by
    apply Array.ext'
    simp
  rcases ha with ⟨hu, hl⟩ | ⟨k, k', m, hu, rfl, h1, h2, h3, h4⟩
  · have h5 := hn.1 hu
    rw [← fin]
    rcases hu with ⟨e, hu⟩ | hu
    · simp [Builtin.append_, Sem.run_bind, run_underlying ht, run_underlying hu, sizeOf, typeInfo, zeroValue, hin, hz, hl, c1, c2, c3, h5, ho, Question.forced, newRow, grownCap]
      congr 2
      apply Array.ext'
      simp
    · simp [Builtin.append_, Sem.run_bind, run_underlying ht, run_underlying hu, sizeOf, typeInfo, zeroValue, hin, hz, hl, c1, c2, c3, h5, ho, Question.forced, newRow, grownCap]
      congr 2
      apply Array.ext'
      simp
  · obtain ⟨hne, z', hz', hnews⟩ := hn.2 k hu
    have hzz : z' = z := by
      simp [zeroValue, typeInfo, hin, hz] at hz'
      exact hz'.symm
    subst hzz
    subst h4
    have n1 : ¬ m < 0 := by omega
    have n2 : ¬ (281474976710656 : Int) < m * i.bytes := by omega
    have n3 : ¬ (m = 0) := by intro e; subst e; simp at hne
    have n4 : ¬ (i.size = 0) := by intro e; rw [e] at hne; simp at hne
    have n5 : ¬ (m.toNat * i.size = 0) := hne
    have n6 : ¬ (m ≤ 0) := by omega
    rw [← fin, hnews]
    simp [Builtin.append_, Sem.run_bind, run_underlying ht, run_underlying hu, sizeOf, typeInfo, zeroValue, hin, hz, c1, c2, c3, ho, Question.forced, newRow, grownCap, asInt, asIntOf, i64_small h1 h2, n1, n2, n3, n4, n6]
    rw [if_neg (by omega), if_neg n5]
end

/-! ### A block that is taken on under another name -/
theorem Ok.move (h : Sim C ρ σ w) (hf : ρ σ.next = none) {k : Nat} {o o' : SObj} {b off off' : Nat} (hk : σ.heap.get k = some o) (hr : ρ k = some (b, off)) {ro : Obj} (hs : ∀ p, w.shape? b = some p → (World.putO w b ro).shape? b = some p)
    (ho : (∀ j p, World.shp w j = some p → World.shp (World.putO w b ro) j = some p) → ObjR C.P C.B (upd ρ σ.next (b, off')) (World.putO w b ro) o' b off') :
    Ok C ρ σ w (upd ρ σ.next (b, off')) ((σ.put k none).alloc o') (World.putO w b ro) := by
  obtain ⟨b0, off0, h1, h2, h3⟩ := h.objs k o hk
  rw [hr] at h1
  cases h1
  have hb := h3.lt
  have hkn : k ≠ σ.next := fun e => by subst e; rw [hf] at hr; cases hr
  have hheap := putO_heap w b ro
  have hsz : (World.putO w b ro).heap.size = w.heap.size := by simp [World.putO]
  have hsh : ∀ j p, World.shp w j = some p → World.shp (World.putO w b ro) j = some p := by
    intro j p hj
    by_cases e : j = b
    · subst e; exact hs p hj
    · exact (shape_of_heap (by rw [hheap j hb, if_neg e])).trans hj
  have hext := upd_ext ρ (b, off') hf
  have hget : ∀ j, ((σ.put k none).alloc o').heap.get j = if j = σ.next then some o' else if j = k then none else σ.heap.get j := by
    intro j
    have e1 : ((σ.put k none).alloc o').heap.get j = if j = σ.next then some o' else (σ.put k none).heap.get j := T.get_set _ _ _ _
    have e2 : (σ.put k none).heap.get j = if j = k then none else σ.heap.get j := T.get_set _ _ _ _
    rw [e1, e2]
  have old : ∀ j o2, j ≠ σ.next → ((σ.put k none).alloc o').heap.get j = some o2 → j ≠ k ∧ σ.heap.get j = some o2 := by
    intro j o2 hj hg
    rw [hget, if_neg hj] at hg
    by_cases e : j = k
    · rw [if_pos e] at hg; cases hg
    · rw [if_neg e] at hg; exact ⟨e, hg⟩
  refine ⟨hext, fun j hj => ?_, fun j o2 c f hg hr2 => ?_, ⟨fun j o2 hg => ?_, fun j j' o1 o2 c f f' hg hg' hr1 hr2 => ?_, fun c i v hv => ?_, by rw [hsz]; exact h.size⟩, ⟨rfl, rfl, rfl, by rw [hsz]; exact Nat.le_refl _, fun c hc hn => ?_, hsh⟩, Nat.le_succ _⟩
  · have : j = σ.next := by
      by_cases e : j = σ.next
      · exact e
      · exact absurd (upd_ne ρ _ e) hj
    subst this
    exact ⟨Nat.le_refl _, Nat.lt_succ_self _⟩
  · by_cases e : j = σ.next
    · subst e
      rw [upd_same] at hr2
      cases hr2
      exact .inr ⟨k, o, off, hk, hr⟩
    · rw [upd_ne _ _ e] at hr2
      exact .inr ⟨j, o2, f, (old j o2 e hg).2, hr2⟩
  · by_cases e : j = σ.next
    · subst e
      rw [hget, if_pos rfl] at hg
      cases hg
      exact ⟨b, off', upd_same _ _ _, h2, ho hsh⟩
    · obtain ⟨hjk, hg'⟩ := old j o2 e hg
      obtain ⟨c, f, h4, h5, h6⟩ := h.objs j o2 hg'
      refine ⟨c, f, by rw [upd_ne _ _ e]; exact h4, h5, h6.mono hsh hext ?_⟩
      rw [hheap c hb, if_neg]
      intro e2
      subst e2
      exact hjk (h.inj j k _ _ c f off hg' hk h4 hr)
  · by_cases e : j = σ.next
    · by_cases e' : j' = σ.next
      · rw [e, e']
      · subst e
        rw [upd_same] at hr1
        cases hr1
        rw [upd_ne _ _ e'] at hr2
        obtain ⟨hjk, hg2⟩ := old j' o2 e' hg'
        exact absurd (h.inj j' k _ _ _ _ _ hg2 hk hr2 hr) hjk
    · rw [upd_ne _ _ e] at hr1
      obtain ⟨hjk, hg1⟩ := old j o1 e hg
      by_cases e' : j' = σ.next
      · subst e'
        rw [upd_same] at hr2
        cases hr2
        exact absurd (h.inj j k _ _ _ _ _ hg1 hk hr1 hr) hjk
      · rw [upd_ne _ _ e'] at hr2
        obtain ⟨hjk', hg2⟩ := old j' o2 e' hg'
        exact h.inj j j' _ _ c f f' hg1 hg2 hr1 hr2
  · obtain ⟨h4, r, h5, h6⟩ := h.base c i v hv
    refine ⟨h4, r, (cell_of_heap ?_).trans h5, h6.mono hsh hext⟩
    show (World.putO w b ro).heap[c]? = w.heap[c]?
    rw [hheap c hb, if_neg (by omega)]
  · rw [hheap c hb, if_neg]
    intro e
    subst e
    exact hn k o off hk hr

/-! ### append -/
theorem ones_sound {P : Program} {B : Nat} {sh : Shp} : ∀ {vs : List SV} {rs : List Value}, VRs P B sh ρ vs rs → vs.all SV.one = true → ∀ x ∈ rs, (∀ cs, x ≠ .agg cs) ∧ (∀ cs, x ≠ .tuple cs)
  | _, _, .nil, _, x, hx => by cases hx
  | _, _, .cons h1 h2, ha, x, hx => by
    simp only [List.all_cons, Bool.and_eq_true] at ha
    cases hx with
    | head => exact vr_one h1 ha.1
    | tail _ hx => exact ones_sound h2 ha.2 x hx
theorem append_sound (h : Sim C ρ σ w) (hf : Free ρ σ hi) {t u ty elem : TypeId} {size bytes : Nat} {z : SV} (ht : C.P.underlying t = some (.slice elem)) (hs : sizeT C.P elem = some size) (hby : bytesT C.P elem = some bytes) (hz : zeroT C.P elem = some z)
    (hzl : z.cells.length = size) (hp : 0 < size) (hpb : 0 < bytes) {s : SV} {rs rx : Value} {n : Nat} {news : Option (List SV)} (hsv : VR C.P C.B (World.shp w) ρ s rs) (ha : Added C.P elem u size bytes rx n)
    (h0 : n = 0 → ((∃ e, C.P.underlying u = some (.slice e)) ∨ C.P.underlying u = some .string) → (Builtin.firstCells size 0 rx).run C.P w = .ok #[] w)
    (hnews : n ≠ 0 → ∀ new, news = some new → ∀ w1, (w1 = w ∨ w1 = w.drew) → ∃ rn : List Value, AddedAt C.P elem u size rx n w1 rn ∧ VRs C.P C.B (World.shp w) ρ new rn ∧ rn.length = n * size)
    (he : Al (Ev.of (appendS C.E σ elem size bytes s n news)) hi Q) : Does C ρ σ w (Builtin.append_ #[t, u] ty #[rs, rx]) Q := by
  obtain ⟨i, hin, hsi⟩ : ∃ i, C.P.info? elem = some i ∧ i.size = size := by simpa [sizeT] using hs
  have hbi : i.bytes = bytes := by
    simp only [bytesT, hin, Option.map_some, Option.some.injEq] at hby
    exact hby
  obtain ⟨vz, hvz, hvzr⟩ := zeroT_sound (B := C.B) (sh := World.shp w) (ρ := ρ) hz
  have hiz : i.zero = some vz := by
    have := hvz w
    simp only [zeroValue, typeInfo, hin, Sem.run_bind, run_program, Result.andThen_ok, Sem.run_pure] at this
    cases hq : i.zero with
    | none => rw [hq] at this; simp at this
    | some q => rw [hq] at this; simp at this; rw [this]
  have hvzl : vz.cells.size = size := by have := hvzr.cells.length; simp at this; omega
  -- a new block
  have grow : ∀ {σ1 : SSt} {base : Option Addr} {len cap : Nat} {old new : List SV} {olds rn : List Value}, rs = .slice base len cap → n ≠ 0 → cap < len + n → (2 * (len + n) + 1024) * bytes ≤ 2 ^ 47 → Ok C ρ σ w.drew ρ σ1 w.drew → σ1.next = σ.next →
      (Builtin.firstCells size len (.slice base len cap)).run C.P w.drew = .ok olds.toArray w.drew → VRs C.P C.B (World.shp w) ρ old olds → olds.length = len * size →
      AddedAt C.P elem u size rx n w.drew rn → VRs C.P C.B (World.shp w) ρ new rn → rn.length = n * size → σ1.next + 1 ≤ hi → Q (.slice (some ⟨false, σ1.next, 0⟩) (len + n) (.un size), σ1.newCells elem (old ++ new)) → Does C ρ σ w (Builtin.append_ #[t, u] ty #[rs, rx]) Q := by
    intro σ1 base len cap old new olds rn e hn0 hc hbig hok hnx ho hov hol hn hnv hnl hle hq
    subst e
    have hfr : ρ σ1.next = none := by rw [hnx]; exact hf _ (Nat.le_refl _) (by omega)
    have hnew := Ok.newCells (e := elem) (rest := (Builtin.zeroCells vz.cells (grownCap w (len + n) cap elem - (len + n))).toList) hok.sim hfr (hov.append hnv)
    refine ⟨_, _, _, _, _, hq, ((Ok.drew h).trans hok).trans hnew, run_append_more ht hin hsi hbi ha hc hbig hpb w ho hn hiz, ?_⟩
    have hge : len + n ≤ grownCap w (len + n) cap elem := by simp [grownCap, Question.cut]
    refine .sliceU _ _ _ (ar_new _ _ _) hge (shape_new w.drew _ elem (0, 0)) ?_
    have : (Builtin.zeroCells vz.cells (grownCap w (len + n) cap elem - (len + n))).size = (grownCap w (len + n) cap elem - (len + n)) * size := by rw [← hvzl]; simp [Builtin.zeroCells]
    simp only [List.size_toArray, List.length_append, hol, hnl, Array.length_toList, this, Nat.zero_add]
    rw [← Nat.add_mul, ← Nat.add_mul]
    exact Nat.mul_le_mul_right _ (by omega)
  unfold appendS at he
  split at he
  · rename_i base len cap
    split at he
    · rename_i hn0
      have hn0 := Nat.eq_of_beq_eq_true hn0
      have fin : ∀ {rb : Option Addr} {c : Nat}, rs = .slice rb len c → len ≤ c → Q (.slice base len cap, σ) → Does C ρ σ w (Builtin.append_ #[t, u] ty #[rs, rx]) Q := by
        intro rb c e hc hq
        exact ⟨_, _, _, rs, w, hq, Ok.refl h, by rw [e]; exact run_append_zero ht hin hsi hbi ha hn0 hc w (h0 hn0), hsv⟩
      split at he
      · rename_i c
        split at he
        · rename_i hc
          have hc := Nat.le_of_ble_eq_true hc
          cases hsv with
          | sliceNil => exact fin rfl (by omega) he.2
          | slice _ _ har => exact fin rfl hc he.2
          | sliceZ0 => exact fin rfl (by omega) he.2
        · exact he.elim
      · rename_i sz
        cases hsv with
        | sliceU _ c _ har hc => exact fin rfl hc he.2
        | sliceZ => exact fin rfl (by omega) he.2
    · rename_i hn0
      have hn0 : n ≠ 0 := by intro e; subst e; simp at hn0
      split at he
      · exact he.elim
      · rename_i new
        have hnw := hnews hn0 new rfl
        split at he
        · rename_i c
          split at he
          · rename_i hc
            have hc := Nat.le_of_ble_eq_true hc
            split at he
            · exact he.elim
            · rename_i a
              split at he
              · exact he.elim
              · rename_i σ' hw
                cases hsv with
                | sliceZ0 => omega
                | slice _ _ har =>
                  obtain ⟨rn, h1, h2, h3⟩ := hnw w (.inl rfl)
                  obtain ⟨w', h4, h5⟩ := wr_sound h (har.add (len * size)) h2 hw
                  exact ⟨_, _, _, _, w', he.2, h5, run_append_fit ht hin hsi hbi ha hc w w' h1 h4, .slice _ _ har⟩
          · rename_i hc
            have hc : c < len + n := by
              have : Nat.ble (len + n) c = false := by simpa using hc
              rcases Nat.lt_or_ge c (len + n) with h | h
              · exact h
              · rw [Str.bleT h] at this; cases this
            split at he
            · rename_i hb
              obtain ⟨hbig, hone⟩ := hb
              split at he
              · exact he.elim
              · rename_i old hold
                obtain ⟨rn, h1, h2, h3⟩ := hnw w.drew (.inr rfl)
                have hcs := fun (rv : Value) (hv : VR C.P C.B (World.shp w) ρ (.slice base len (.kn c)) rv) => cells_sound h.drew hold (m := len) rfl (Nat.le_refl _) hv
                obtain ⟨olds, h4, h5, h6⟩ := hcs rs hsv
                cases hsv with
                | sliceNil => exact grow rfl hn0 hc hbig (Ok.refl h.drew) rfl h4 h5 h6 h1 h2 h3 he.1 he.2
                | slice _ _ har => exact grow rfl hn0 hc hbig (Ok.refl h.drew) rfl h4 h5 h6 h1 h2 h3 he.1 he.2
                | sliceZ0 => exact grow rfl hn0 hc hbig (Ok.refl h.drew) rfl h4 h5 h6 h1 h2 h3 he.1 he.2
            · exact he.elim
        · rename_i sz
          split at he
          · exact he.elim
          · rename_i a
            split at he
            · exact he.elim
            · rename_i hbase
              split at he
              · rename_i hb
                obtain ⟨hbig, hone⟩ := hb
                split at he
                · rename_i tt m e hg
                  split at he
                  · rename_i old hee hold
                    rw [Bool.and_eq_true] at hee
                    obtain ⟨e1, e2⟩ := hee
                    obtain rfl := Nat.eq_of_beq_eq_true e1
                    obtain rfl := Nat.eq_of_beq_eq_true e2
                    -- a new one, the old let go
                    have growU : ∀ {r : Addr} {c : Nat}, rs = .slice (some r) len c → (len = 0 ∨ AR ρ a r) → c < len + n → Does C ρ σ w (Builtin.append_ #[t, u] ty #[rs, rx]) Q := by
                      intro r c e har hc
                      obtain ⟨rn, h1, h2, h3⟩ := hnw w.drew (.inr rfl)
                      have hld : ∃ olds : List Value, (Builtin.firstCells sz len (.slice (some r) len c)).run C.P w.drew = .ok olds.toArray w.drew ∧ VRs C.P C.B (World.shp w) ρ old olds ∧ olds.length = len * sz := by
                        rcases har with rfl | har
                        · simp [rdL] at hold
                          subst hold
                          exact ⟨[], by simp [Builtin.firstCells, loadCells, loadCellsFrom], .nil, by simp⟩
                        · obtain ⟨rs, h4, h5, h6⟩ := loadCells_sound h.drew har hold
                          exact ⟨rs, h4, h5, h6⟩
                      obtain ⟨olds, h4, h5, h6⟩ := hld
                      exact grow e hn0 hc hbig (Ok.kill h.drew a.blk) rfl h4 h5 h6 h1 h2 h3 he.1 he.2
                    cases hsv with
                    | sliceZ => exact growU rfl (.inl rfl) (by omega)
                    | sliceU _ c _ har hlc hsh hm =>
                      rename_i r e' m'
                      by_cases hfit : len + n ≤ c
                      · -- in place
                        obtain ⟨rn, h1, h2, h3⟩ := hnw w (.inl rfl)
                        have har2 := har.2
                        simp only [hbase] at har2
                        obtain ⟨o, h4, h5⟩ := har2
                        obtain ⟨b, off, h6, hB, c', fr, h7, h8, h9, h10⟩ := h.objs _ _ hg
                        rw [h4] at h6
                        cases h6
                        have hr : r = ⟨r.block, r.off, none⟩ := by have := har.1; cases r; simp_all
                        have hm2 : m' = c'.size := by
                          simp only [World.shp, World.shape?, h7, Option.some.injEq, Prod.mk.injEq] at hsh
                          exact hsh.2.symm
                        have hmul : (len + n) * sz ≤ c * sz := Nat.mul_le_mul_right _ hfit
                        rw [Nat.add_mul] at hmul
                        obtain ⟨c'', e3, e4, e5⟩ := run_storeCells C.P (off := r.off + len * sz) rn 0 w c' h7 (fun i hi hx => by omega) (ones_sound h2 hone) (by omega)
                        have hadd : r.add (len * sz) = ⟨r.block, r.off + len * sz, none⟩ := by
                          unfold Addr.add
                          split
                          · rename_i hz0; rw [hz0]; exact hr
                          · have := har.1; cases r; simp_all
                        have hfresh : ρ σ.next = none := hf _ (Nat.le_refl _) he.1
                        have hwb : (World.putO w r.block (.cells c'' e fr)).heap[r.block]? = some (.cells c'' e fr) := by rw [putO_heap _ _ _ _ (Array.getElem?_eq_some_iff.1 h7).1, if_pos rfl]
                        obtain ⟨hol, hog⟩ := rdL_get hold
                        have hnl := h2.length
                        have hmove : Ok C ρ σ w (upd ρ σ.next (r.block, r.off)) ((σ.put a.blk none).newCells e (old ++ new)) (World.putO w r.block (.cells c'' e fr)) := by
                          refine Ok.move h hfresh hg h4 (fun p hp => ?_) fun hsh2 => ⟨c'', fr, hwb, by omega, ?_, fun i v hi => ?_⟩
                          · simp only [World.shape?, h7] at hp
                            simp only [World.shape?, hwb, e3]
                            exact hp
                          · simp only [List.length_append, hol]
                            omega
                          · rw [tget_putList0] at hi
                            rw [e4]
                            by_cases hi2 : i < old.length
                            · rw [List.getElem?_append_left hi2] at hi
                              rw [if_neg (by omega)]
                              obtain ⟨rv, h11, h12⟩ := rd_sound h har (hog i v hi)
                              simp only [Nat.zero_add] at h11
                              have hadd2 : r.add i = ⟨r.block, r.off + i, none⟩ := by
                                unfold Addr.add
                                split
                                · rename_i hz0; rw [hz0]; exact hr
                                · have := har.1; cases r; simp_all
                              rw [hadd2] at h11
                              simp only [World.cell?, h7] at h11
                              exact ⟨rv, by simpa using h11, h12.mono hsh2 (upd_ext ρ _ hfresh)⟩
                            · rw [List.getElem?_append_right (by omega)] at hi
                              obtain ⟨rv, h11, h12⟩ := h2.get hi
                              have hlt := (List.getElem?_eq_some_iff.1 h11).1
                              rw [if_pos (by omega)]
                              refine ⟨rv, ?_, h12.mono hsh2 (upd_ext ρ _ hfresh)⟩
                              rw [show r.off + i - (r.off + len * sz + 0) = i - old.length by omega]
                              exact h11
                        refine ⟨_, _, _, _, _, he.2, hmove, run_append_fit ht hin hsi hbi ha hfit w _ h1 (by rw [hadd]; exact e5), ?_⟩
                        refine .sliceU _ _ _ ⟨har.1, r.off, upd_same _ _ _, rfl⟩ hfit (hmove.fr.shape _ _ hsh) hm
                      · exact growU rfl (.inr har) (by omega)
                  · exact he.elim
                · exact he.elim
              · exact he.elim
  · exact he.elim

theorem appendX_sound (h : Sim C ρ σ w) (hf : Free ρ σ hi) {t u ty elem : TypeId} {size bytes : Nat} {z : SV} (ht : C.P.underlying t = some (.slice elem)) (hu : (∃ e, C.P.underlying u = some (.slice e)) ∨ C.P.underlying u = some .string) (hs : sizeT C.P elem = some size) (hby : bytesT C.P elem = some bytes) (hz : zeroT C.P elem = some z)
    (hzl : z.cells.length = size) (hp : 0 < size) (hpb : 0 < bytes) {s x : SX} {rs rx : Value} {tm : T SV} (hsv : VR C.P C.B (World.shp w) ρ (evX tm s) rs) (hxv : VR C.P C.B (World.shp w) ρ (evX tm x) rx)
    (he : Al (mAppend C.E elem size bytes s x tm σ) hi Q) : Does C ρ σ w (Builtin.append_ #[t, u] ty #[rs, rx]) Q := by
  simp only [Al, mAppend] at he
  split at he
  · rename_i n hn
    refine append_sound h hf ht hs hby hz hzl hp hpb hsv (u := u) (n := n) (.inl ⟨hu, fun w => lenX_sound hxv hn w⟩) (fun h0 _ => ?_) (fun h0 new hnew w1 hw1 => ?_) he
    · generalize evX tm x = v at hxv hn
      cases hxv <;> first | (simp [lenX] at hn; done) | skip
      all_goals simp [Builtin.firstCells, loadCells, loadCellsFrom]
    · have nint : ∀ k, C.P.underlying u ≠ some (.int k) := by
        intro k hk
        rcases hu with ⟨e, hu⟩ | hu <;> (rw [hk] at hu; cases hu)
      rcases hw1 with rfl | rfl
      · obtain ⟨rn, h1, h2, h3⟩ := cells_sound h hnew hn (Nat.le_refl _) hxv
        exact ⟨rn, ⟨fun _ => h1, fun k hk => absurd hk (nint k)⟩, h2, h3⟩
      · obtain ⟨rn, h1, h2, h3⟩ := cells_sound h.drew hnew hn (Nat.le_refl _) hxv
        exact ⟨rn, ⟨fun _ => h1, fun k hk => absurd hk (nint k)⟩, h2, h3⟩
  · exact he.elim
theorem appendZ_sound (h : Sim C ρ σ w) (hf : Free ρ σ hi) {t u ty elem : TypeId} {size bytes : Nat} {z : SV} {k : IntKind} (ht : C.P.underlying t = some (.slice elem)) (hu : C.P.underlying u = some (.int k)) (hs : sizeT C.P elem = some size) (hby : bytesT C.P elem = some bytes) (hz : zeroT C.P elem = some z)
    (hzl : z.cells.length = size) (hp : 0 < size) (hpb : 0 < bytes) {s x : SX} {rs rx : Value} {tm : T SV} (hsv : VR C.P C.B (World.shp w) ρ (evX tm s) rs) (hxv : VR C.P C.B (World.shp w) ρ (evX tm x) rx)
    (he : Al (mAppendZ C.E elem size bytes z.cells s x tm σ) hi Q) : Does C ρ σ w (Builtin.append_ #[t, u] ty #[rs, rx]) Q := by
  obtain ⟨vz, hvz, hvzr⟩ := zeroT_sound (B := C.B) (sh := World.shp w) (ρ := ρ) hz
  simp only [Al, mAppendZ] at he
  split at he
  · rename_i k' m hm
    rw [hm] at hxv
    obtain rfl := vr_int hxv
    split at he
    · rename_i hb
      obtain ⟨b1, b2, b3⟩ := hb
      refine append_sound h hf ht hs hby hz hzl hp hpb hsv (u := u) (n := m.toNat) (.inr ⟨k, k', m, hu, rfl, b1, b2, b3, rfl⟩) (fun h0 hx => ?_) (fun h0 new hnew w1 hw1 => ?_) he
      · rcases hx with ⟨e, hx⟩ | hx <;> (rw [hu] at hx; cases hx)
      · cases hnew
        refine ⟨(Builtin.zeroCells vz.cells m.toNat).toList, ⟨fun hx => ?_, fun k hk => ⟨?_, vz, hvz w1, by simp⟩⟩, zeroCells_sound hvzr (by omega) m.toNat, ?_⟩
        · rcases hx with ⟨e, hx⟩ | hx <;> (rw [hu] at hx; cases hx)
        · intro e
          rcases Nat.mul_eq_zero.1 e with e | e <;> omega
        · have := (zeroCells_sound hvzr (by omega) m.toNat).length
          rw [← this, repL_length, hzl]
    · exact he.elim
  · exact he.elim

/-! ### copy, clear, and a slice under another type -/
theorem copy_sound (h : Sim C ρ σ w) {t u ty elem : TypeId} {size : Nat} (ht : C.P.underlying t = some (.slice elem)) (hs : sizeT C.P elem = some size) {d s : SX} {rd rs : Value} {tm : T SV} (hd : VR C.P C.B (World.shp w) ρ (evX tm d) rd) (hsv : VR C.P C.B (World.shp w) ρ (evX tm s) rs)
    (he : Al (mCopy C.E size d s tm σ) hi Q) : Does C ρ σ w (Builtin.copy_ #[t, u] ty #[rd, rs]) Q := by
  simp only [Al, mCopy] at he
  split at he
  · rename_i base dl cap sl hdv hsl
    rw [hdv] at hd
    split at he
    · exact he.elim
    · rename_i cs hcs
      obtain ⟨rn, h1, h2, h3⟩ := cells_sound h hcs hsl (Nat.min_le_left _ _) hsv
      have hlen := lenX_sound hsv hsl w
      have fin : ∀ {rb : Option Addr} {c : Nat} {σ' : SSt} {w' : World}, rd = .slice rb dl c → (match rb with | some a => storeCells a rn | none => pure ()).run C.P w = .ok () w' → Ok C ρ σ w ρ σ' w' → Q (.int .i64 (min sl dl : Nat), σ') → Does C ρ σ w (Builtin.copy_ #[t, u] ty #[rd, rs]) Q := by
        intro rb c σ' w' e hst hok hq
        subst e
        refine ⟨_, _, _, .int .i64 (min sl dl : Nat), w', hq, hok, ?_, .int _ _⟩
        have h1' : (Builtin.firstCells size (Nat.min sl dl) rs).run C.P w = .ok rn.toArray w := h1
        cases rb with
        | none =>
          have hst' : w' = w := by simpa using hst.symm
          subst hst'
          simp only [Builtin.copy_, Sem.run_bind, run_underlying ht, run_sizeOf hs, hlen, h1', Result.andThen_ok, Sem.run_pure, goInt, List.getElem?_toArray, List.getElem?_cons_zero, List.getElem?_cons_succ]
        | some a =>
          simp only [Builtin.copy_, Sem.run_bind, run_underlying ht, run_sizeOf hs, hlen, h1', Result.andThen_ok, Sem.run_pure, goInt, List.getElem?_toArray, List.getElem?_cons_zero, List.getElem?_cons_succ, hst]
      have none0 : min sl dl = 0 → rn = [] := by
        intro e
        rw [e] at h3
        simpa using h3
      split at he
      · cases hd with
        | sliceNil => exact fin (rb := none) rfl rfl (Ok.refl h) he.2
      · rename_i a
        split at he
        · rename_i h0
          have h0 := Nat.eq_of_beq_eq_true h0
          have hr := none0 h0
          have st : ∀ r : Addr, (match some r with | some a => storeCells a rn | none => pure ()).run C.P w = .ok () w := by
            intro r; subst hr; rfl
          cases hd with
          | slice _ _ har => exact fin rfl (st _) (Ok.refl h) he.2
          | sliceU _ c _ har => exact fin rfl (st _) (Ok.refl h) he.2
          | sliceZ => exact fin rfl (st _) (Ok.refl h) he.2
          | sliceZ0 => exact fin rfl (st _) (Ok.refl h) he.2
        · rename_i h0
          split at he
          · rename_i σ' hw
            cases hd with
            | slice _ _ har =>
              obtain ⟨w', h4, h5⟩ := wr_sound h har h2 hw
              exact fin rfl h4 h5 he.2
            | sliceU _ c _ har =>
              obtain ⟨w', h4, h5⟩ := wr_sound h har h2 hw
              exact fin rfl h4 h5 he.2
            | sliceZ => simp at h0
            | sliceZ0 => simp at h0
          · exact he.elim
  · exact he.elim
theorem clear_sound (h : Sim C ρ σ w) {t ty elem : TypeId} {z : SV} (ht : C.P.underlying t = some (.slice elem)) (hz : zeroT C.P elem = some z) (hp : 0 < z.cells.length) {x : SX} {rx : Value} {tm : T SV} (hx : VR C.P C.B (World.shp w) ρ (evX tm x) rx)
    (he : Al (mClear z.cells x tm σ) hi Q) : Does C ρ σ w (Builtin.clear_ #[t] ty #[rx]) Q := by
  obtain ⟨vz, hvz, hvzr⟩ := zeroT_sound (B := C.B) (sh := World.shp w) (ρ := ρ) hz
  have zero : ∀ {c : Nat} {rb : Option Addr}, rx = .slice rb 0 c → Q (undefS, σ) → Does C ρ σ w (Builtin.clear_ #[t] ty #[rx]) Q := by
    intro c rb e hq
    subst e
    refine ⟨_, _, _, undef, w, hq, Ok.refl h, ?_, VR.undef⟩
    cases rb <;> simp [Builtin.clear_, Sem.run_bind, run_underlying ht, undef]
  simp only [Al, mClear] at he
  split at he
  · rename_i n c hxe
    rw [hxe] at hx
    cases hx
    exact zero rfl he.2
  · rename_i a c hxe
    rw [hxe] at hx
    cases hx with
    | sliceNil => exact zero rfl he.2
    | slice => exact zero rfl he.2
    | sliceU => exact zero rfl he.2
    | sliceZ => exact zero rfl he.2
    | sliceZ0 => exact zero rfl he.2
  · rename_i a n c hne hxe
    rw [hxe] at hx
    split at he
    · rename_i σ' hw
      have fin : ∀ {r : Addr} {c : Nat}, rx = .slice (some r) n c → n ≠ 0 → AR ρ a r → Does C ρ σ w (Builtin.clear_ #[t] ty #[rx]) Q := by
        intro r c e hn har
        subst e
        obtain ⟨w', h1, h2⟩ := wr_sound h har (zeroCells_sound hvzr hp n) hw
        refine ⟨_, _, _, undef, w', he.2, h2, ?_, VR.undef⟩
        obtain ⟨m, rfl⟩ : ∃ m, n = m + 1 := ⟨n - 1, by omega⟩
        simp only [Builtin.clear_, Sem.run_bind, run_underlying ht, Result.andThen_ok, List.getElem?_toArray, List.getElem?_cons_zero, hvz w, h1, Sem.run_pure, undef]
      have hn : n ≠ 0 := fun e => hne e
      cases hx with
      | slice _ _ har => exact fin rfl hn har
      | sliceU _ _ _ har => exact fin rfl hn har
      | sliceZ => exact absurd rfl hn
      | sliceZ0 => exact absurd rfl hn
    · exact he.elim
  · exact he.elim
theorem freeze_putO {b : Nat} {c : Array Value} {e : TypeId} {fr : Nat × Nat} (h : w.heap[b]? = some (.cells c e fr)) (off : Nat) :
    w.freeze ⟨b, off, none⟩ 1 = World.putO w b (.cells c e (if fr.1 == fr.2 then (off, off + 1) else (min fr.1 off, max fr.2 (off + 1)))) := by
  obtain ⟨hb, he⟩ := Array.getElem?_eq_some_iff.1 h
  simp only [World.freeze, World.putO, Nat.one_ne_zero, if_false]
  congr 1
  apply Array.ext
  · simp
  · intro i h1 h2
    rw [Array.getElem_setIfInBounds, Array.getElem_modify]
    by_cases hi : b = i
    · subst hi; simp [he]
    · rw [if_neg hi, if_neg hi]
theorem same_sound (h : Sim C ρ σ w) {src dst e : TypeId} (hsd : (src == dst) = true) (hs : C.P.underlying src = some (.slice e)) (he8 : C.P.underlying e = some (.int .u8)) {x : SX} {rx : Value} {tm : T SV} (hx : VR C.P C.B (World.shp w) ρ (evX tm x) rx) (he : Al (mSame x tm σ) hi Q) :
    Does C ρ σ w (convert src dst rx) Q := by
  have hsd' : src = dst := by simpa using hsd
  subst hsd'
  simp only [Al, mSame] at he
  split at he
  · rename_i a n c hxe
    rw [hxe] at hx
    split at he
    · exact he.elim
    · rename_i hbase
      split at he
      · rename_i tt m el hn hg
        have fin : ∀ {r : Addr} {cc : Nat}, rx = .slice (some r) n cc → AR ρ a r → (∀ {w' : World}, Ok C ρ σ w ρ (σ.put a.blk (some (.cells tt m el))) w' → VR C.P C.B (World.shp w') ρ (.slice (some a) n c) (.slice (some r) n cc)) → Does C ρ σ w (convert src src rx) Q := by
          intro r cc e1 har hvr
          subst e1
          obtain ⟨hsp, har2⟩ := har
          simp only [hbase] at har2
          obtain ⟨o, h4, h5⟩ := har2
          obtain ⟨b, off, h6, hB, c', fr, h7, h8, h9, h10⟩ := h.objs _ _ hg
          rw [h4] at h6
          cases h6
          have hwb : ∀ fr', (World.putO w r.block (.cells c' el fr')).heap[r.block]? = some (.cells c' el fr') := fun fr' => by rw [putO_heap _ _ _ _ (Array.getElem?_eq_some_iff.1 h7).1, if_pos rfl]
          have hput : Ok C ρ σ w ρ (σ.put a.blk (some (.cells tt m el))) (w.freeze ⟨r.block, c'.size, none⟩ 1) := by
            rw [freeze_putO h7]
            refine Ok.put h hg h4 (fun p hp => ?_) fun hsh => ⟨c', _, hwb _, ?_, h9, fun i v hi => ?_⟩
            · simp only [World.shape?, h7] at hp
              simp only [World.shape?, hwb]
              exact hp
            · split
              · exact .inr (Nat.le_refl _)
              · rename_i hne
                right
                have hne' : fr.1 ≠ fr.2 := by simpa using hne
                show c'.size ≤ min fr.1 c'.size
                omega
            · obtain ⟨rv, h11, h12⟩ := h10 i v hi
              exact ⟨rv, h11, h12.mono hsh (fun _ _ h => h)⟩
          refine ⟨_, _, _, .slice (some r) n cc, _, he.2, hput, ?_, hvr hput⟩
          have hshape : w.shape? r.block = some (el, c'.size) := by simp [World.shape?, h7]
          have hmk : (markStringish r).run C.P w = .ok () (w.freeze ⟨r.block, c'.size, none⟩ 1) := by
            simp [markStringish, Sem.run_bind, hshape]
          simp [convert, Sem.run_bind, run_underlying hs, run_underlying he8, hmk]
        cases hx with
        | slice _ _ har => exact fin rfl har fun _ => .slice _ _ har
        | sliceU _ _ _ har hc hsh hm => exact fin rfl har fun hok => .sliceU _ _ _ har hc (hok.fr.shape _ _ hsh) hm
        | sliceZ => simp at hn
        | sliceZ0 => simp at hn
      · exact he.elim
  · exact he.elim
end
end Go.Sh
