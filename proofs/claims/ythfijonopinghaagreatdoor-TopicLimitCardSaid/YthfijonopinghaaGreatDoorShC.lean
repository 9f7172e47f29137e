/-
  The shadow machine, part C: how its values, its heap and its activations stand to the model's.
-/
import Derived.Test.YthfijonopinghaaGreatDoorShB
import Derived.RangeFuncLeaves
import Derived.RangeFuncRecord
import Derived.RangeFuncCalls
import Derived.OrdersIn
import Derived.Below
set_option linter.unusedSimpArgs false
set_option linter.unusedVariables false
namespace Go.Sh

abbrev Ren := Nat → Option (Nat × Nat)
abbrev Shp := Nat → Option (TypeId × Nat)
/-- What is fixed: the program, what there is beside, and how many blocks there were. -/
structure Cx where
  P : Program
  E : Env
  B : Nat

/-- An address, and the model's. -/
def AR (ρ : Ren) (a : SA) (r : Addr) : Prop :=
  r.spot = none ∧ match a.base with
    | true => r.block = a.blk ∧ r.off = a.off
    | false => ∃ o, ρ a.blk = some (r.block, o) ∧ r.off = o + a.off

mutual
inductive VR (P : Program) (B : Nat) (sh : Shp) (ρ : Ren) : SV → Value → Prop
  | bool (b : Bool) : VR P B sh ρ (.bool b) (.bool b)
  | int (k : IntKind) (n : Int) : VR P B sh ρ (.int k n) (.int k n)
  | str (s : ByteArray) : VR P B sh ρ (.str (Str.of s)) (.string s)
  | ptrNil : VR P B sh ρ (.ptr none) (.pointer none)
  | ptr {a : SA} {r : Addr} (h : AR ρ a r) : VR P B sh ρ (.ptr (some a)) (.pointer (some r))
  | sliceNil : VR P B sh ρ (.slice none 0 (.kn 0)) (.slice none 0 0)
  | slice {a : SA} {r : Addr} (n c : Nat) (h : AR ρ a r) : VR P B sh ρ (.slice (some a) n (.kn c)) (.slice (some r) n c)
  | sliceU {a : SA} {r : Addr} (n c s : Nat) (h : AR ρ a r) (hc : n ≤ c) {e : TypeId} {m : Nat} (hs : sh r.block = some (e, m)) (hm : r.off + c * s ≤ m) : VR P B sh ρ (.slice (some a) n (.un s)) (.slice (some r) n c)
  | sliceZ (a : SA) (r : Addr) (s : Nat) : VR P B sh ρ (.slice (some a) 0 (.un s)) (.slice (some r) 0 0)
  | sliceZ0 (a : SA) (r : Addr) : VR P B sh ρ (.slice (some a) 0 (.kn 0)) (.slice (some r) 0 0)
  | mapNil : VR P B sh ρ (.map none) (.map none)
  | map {k b : Nat} (h : ρ k = some (b, 0)) : VR P B sh ρ (.map (some k)) (.map (some b))
  | func (f : FuncId) {cs : List SV} {rs : List Value} (h : VRs P B sh ρ cs rs) : VR P B sh ρ (.func f cs) (.func (.func f) #[] rs.toArray)
  | yield {l b : Nat} (h : ρ l = some (b, 0)) : VR P B sh ρ (.yield l) (.func (.yield b) #[] #[])
  | nilFunc : VR P B sh ρ .nilFunc .nilFunc
  | iface (t : TypeId) {v : SV} {r : Value} (h : VR P B sh ρ v r) : VR P B sh ρ (.iface t v) (.iface t r)
  | nilIface : VR P B sh ρ .nilIface .nilIface
  | agg {cs : List SV} {rs : List Value} (h : VRs P B sh ρ cs rs) : VR P B sh ρ (.agg cs) (.agg rs.toArray)
  | tuple {cs : List SV} {rs : List Value} (h : VRs P B sh ρ cs rs) : VR P B sh ρ (.tuple cs) (.tuple rs.toArray)
inductive VRs (P : Program) (B : Nat) (sh : Shp) (ρ : Ren) : List SV → List Value → Prop
  | nil : VRs P B sh ρ [] []
  | cons {v : SV} {r : Value} {vs : List SV} {rs : List Value} (h : VR P B sh ρ v r) (hs : VRs P B sh ρ vs rs) : VRs P B sh ρ (v :: vs) (r :: rs)
end

section
variable {P : Program} {B : Nat} {sh sh' : Shp} {ρ ρ' : Ren}

theorem AR.mono {a : SA} {r : Addr} (h : AR ρ a r) (hρ : ∀ k p, ρ k = some p → ρ' k = some p) : AR ρ' a r := by
  refine ⟨h.1, ?_⟩
  have h2 := h.2
  cases hb : a.base with
  | true => simp only [hb] at h2 ⊢; exact h2
  | false =>
    simp only [hb] at h2 ⊢
    obtain ⟨o, h3, h4⟩ := h2
    exact ⟨o, hρ _ _ h3, h4⟩
mutual
theorem VR.mono (hs : ∀ b p, sh b = some p → sh' b = some p) (hρ : ∀ k p, ρ k = some p → ρ' k = some p) : ∀ {v : SV} {r : Value}, VR P B sh ρ v r → VR P B sh' ρ' v r
  | _, _, .bool b => .bool b
  | _, _, .int k n => .int k n
  | _, _, .str s => .str s
  | _, _, .ptrNil => .ptrNil
  | _, _, .ptr h => .ptr (h.mono hρ)
  | _, _, .sliceNil => .sliceNil
  | _, _, .slice n c h => .slice n c (h.mono hρ)
  | _, _, .sliceU n c s h hc h1 h2 => .sliceU n c s (h.mono hρ) hc (hs _ _ h1) h2
  | _, _, .sliceZ a r s => .sliceZ a r s
  | _, _, .sliceZ0 a r => .sliceZ0 a r
  | _, _, .mapNil => .mapNil
  | _, _, .map h => .map (hρ _ _ h)
  | _, _, .func f h => .func f (VRs.mono hs hρ h)
  | _, _, .yield h => .yield (hρ _ _ h)
  | _, _, .nilFunc => .nilFunc
  | _, _, .iface t h => .iface t (VR.mono hs hρ h)
  | _, _, .nilIface => .nilIface
  | _, _, .agg h => .agg (VRs.mono hs hρ h)
  | _, _, .tuple h => .tuple (VRs.mono hs hρ h)
theorem VRs.mono (hs : ∀ b p, sh b = some p → sh' b = some p) (hρ : ∀ k p, ρ k = some p → ρ' k = some p) : ∀ {vs : List SV} {rs : List Value}, VRs P B sh ρ vs rs → VRs P B sh' ρ' vs rs
  | _, _, .nil => .nil
  | _, _, .cons h t => .cons (VR.mono hs hρ h) (VRs.mono hs hρ t)
end
theorem VRs.length : ∀ {vs : List SV} {rs : List Value}, VRs P B sh ρ vs rs → vs.length = rs.length
  | _, _, .nil => rfl
  | _, _, .cons _ t => by simp [VRs.length t]
theorem VRs.get : ∀ {vs : List SV} {rs : List Value}, VRs P B sh ρ vs rs → ∀ {i : Nat} {v : SV}, vs[i]? = some v → ∃ r, rs[i]? = some r ∧ VR P B sh ρ v r
  | _, _, .nil, i, v, h => by simp at h
  | _, _, .cons h t, 0, v, e => by simp at e; subst e; exact ⟨_, rfl, h⟩
  | _, _, .cons h t, i + 1, v, e => by simpa using VRs.get t (i := i) (v := v) (by simpa using e)
theorem VRs.append : ∀ {vs : List SV} {rs : List Value} {us : List SV} {qs : List Value}, VRs P B sh ρ vs rs → VRs P B sh ρ us qs → VRs P B sh ρ (vs ++ us) (rs ++ qs)
  | _, _, _, _, .nil, h => h
  | _, _, _, _, .cons h t, h' => .cons h (VRs.append t h')
theorem VRs.drop : ∀ {vs : List SV} {rs : List Value}, VRs P B sh ρ vs rs → ∀ n, VRs P B sh ρ (vs.drop n) (rs.drop n)
  | _, _, .nil, n => by simpa using VRs.nil
  | _, _, .cons h t, 0 => .cons h t
  | _, _, .cons h t, n + 1 => by simpa using VRs.drop t n
theorem VRs.take : ∀ {vs : List SV} {rs : List Value}, VRs P B sh ρ vs rs → ∀ n, VRs P B sh ρ (vs.take n) (rs.take n)
  | _, _, .nil, n => by simpa using VRs.nil
  | _, _, .cons h t, 0 => .nil
  | _, _, .cons h t, n + 1 => by simpa using VRs.cons h (VRs.take t n)
theorem VRs.of_get {vs : List SV} : ∀ {rs : List Value}, vs.length = rs.length → (∀ (i : Nat) (v : SV), vs[i]? = some v → ∃ r, rs[i]? = some r ∧ VR P B sh ρ v r) → VRs P B sh ρ vs rs := by
  induction vs with
  | nil => intro rs h _; cases rs with
    | nil => exact .nil
    | cons => simp at h
  | cons v vs ih => intro rs h hg; cases rs with
    | nil => simp at h
    | cons r rs =>
      obtain ⟨r', h1, h2⟩ := hg 0 v rfl
      simp at h1; subst h1
      exact .cons h2 (ih (by simpa using h) fun i v hv => by simpa using hg (i + 1) v (by simpa using hv))
theorem VR.cells {v : SV} {r : Value} (h : VR P B sh ρ v r) : VRs P B sh ρ v.cells r.cells.toList := by
  cases h with
  | agg h => simpa [SV.cells, Value.cells] using h
  | bool b => exact .cons (.bool b) .nil
  | int k n => exact .cons (.int k n) .nil
  | str s => exact .cons (.str s) .nil
  | ptrNil => exact .cons .ptrNil .nil
  | ptr h => exact .cons (.ptr h) .nil
  | sliceNil => exact .cons .sliceNil .nil
  | slice n c h => exact .cons (.slice n c h) .nil
  | sliceU n c s h hc hs hm => exact .cons (.sliceU n c s h hc hs hm) .nil
  | sliceZ a r s => exact .cons (.sliceZ a r s) .nil
  | sliceZ0 a r => exact .cons (.sliceZ0 a r) .nil
  | mapNil => exact .cons .mapNil .nil
  | map h => exact .cons (.map h) .nil
  | func f h => exact .cons (.func f h) .nil
  | yield h => exact .cons (.yield h) .nil
  | nilFunc => exact .cons .nilFunc .nil
  | iface t h => exact .cons (.iface t h) .nil
  | nilIface => exact .cons .nilIface .nil
  | tuple h => exact .cons (.tuple h) .nil
theorem VR.undef : VR P B sh ρ undefS undef := VR.tuple (rs := []) .nil
end

/-! ### Constants -/
theorem mapM_some {α β : Type} {f : α → Option β} : ∀ {l : List α} {m : List β}, l.mapM f = some m → l.length = m.length ∧ ∀ (i : Nat) (x : α), l[i]? = some x → ∃ y, f x = some y ∧ m[i]? = some y := by
  intro l
  induction l with
  | nil => intro m h; simp at h; subst h; simp
  | cons a l ih =>
    intro m h
    simp only [List.mapM_cons, Option.bind_eq_bind, Option.bind_eq_some_iff, Option.pure_def, Option.some.injEq] at h
    obtain ⟨y, hy, ys, hys, rfl⟩ := h
    obtain ⟨h1, h2⟩ := ih hys
    refine ⟨by simp [h1], fun i x hx => ?_⟩
    cases i with
    | zero => simp at hx; subst hx; exact ⟨y, hy, rfl⟩
    | succ i => simpa using h2 i x (by simpa using hx)
section
variable {P : Program} {B : Nat} {sh : Shp} {ρ : Ren}
theorem cvalF_sound (n : Nat) : ∀ {v : Value} {s : SV}, cvalF n v = some s → VR P B sh ρ s v := by
  induction n with
  | zero => intro v s h; simp [cvalF] at h
  | succ n ih =>
    intro v s h
    have hlist : ∀ (cs : Array Value) (l : List SV), cs.toList.mapM (cvalF n) = some l → VRs P B sh ρ l cs.toList := by
      intro cs l hl
      obtain ⟨h1, h2⟩ := mapM_some hl
      refine VRs.of_get h1.symm fun i v hv => ?_
      have hi : i < cs.toList.length := by rw [h1]; exact (List.getElem?_eq_some_iff.1 hv).1
      obtain ⟨y, hy, hm⟩ := h2 i cs.toList[i] (List.getElem?_eq_getElem hi)
      rw [hv] at hm
      cases hm
      exact ⟨_, List.getElem?_eq_getElem hi, ih hy⟩
    unfold cvalF at h
    split at h
    · cases h; exact .bool _
    · cases h; exact .int _ _
    · cases h; exact .str _
    · cases h; exact .ptrNil
    · split at h
      · rename_i hc; obtain ⟨rfl, rfl⟩ := hc; cases h; exact .sliceNil
      · cases h
    · cases h; exact .mapNil
    · cases h; exact .nilFunc
    · cases h; exact .nilIface
    · rename_i cs
      simp only [Option.map_eq_some_iff] at h
      obtain ⟨l, hl, rfl⟩ := h
      have := VR.agg (hlist cs l hl)
      simpa using this
    · rename_i cs
      simp only [Option.map_eq_some_iff] at h
      obtain ⟨l, hl, rfl⟩ := h
      have := VR.tuple (hlist cs l hl)
      simpa using this
    · cases h
theorem cval_sound {v : Value} {s : SV} (h : cval v = some s) : VR P B sh ρ s v := cvalF_sound 4 h
end

/-! ### The heap -/
def World.shp (w : World) : Shp := fun b => w.shape? b

inductive EsR (P : Program) (B : Nat) (sh : Shp) (ρ : Ren) : List (SV × SV × Nat) → List MapEntry → Prop
  | nil : EsR P B sh ρ [] []
  | cons {k v : SV} {n : Nat} {e : MapEntry} {es : List (SV × SV × Nat)} {rs : List MapEntry} (hk : VR P B sh ρ k e.key) (hv : VR P B sh ρ v e.val) (hb : e.born = n) (h : EsR P B sh ρ es rs) : EsR P B sh ρ ((k, v, n) :: es) (e :: rs)

def TmR (P : Program) (B : Nat) (sh : Shp) (ρ : Ren) (tm : T SV) (rt : Array Value) : Prop := ∀ t, VR P B sh ρ (getT tm t) (rt.getD t undef)
def lstR : LState → LoopState
  | .ready => .ready | .busy => .busy | .done => .done | .exhausted => .exhausted
def jumpR : Jump → Code
  | .ret => .ret
  | .exit id => .exit id

structure LoopR (P : Program) (B : Nat) (sh : Shp) (ρ : Ren) (L : SLoop) (R : Loop) : Prop where
  state : R.state = lstR L.state
  pending : R.pending = L.pending.map jumpR
  tm : TmR P B sh ρ L.tm R.tmps
  params : R.params.toList = L.params
  comp : ∃ n, n ≤ R.tmps.size ∧ L.params.all (· < n) = true ∧ compCode P n R.assign = some L.assign ∧ compCode P n R.body = some L.body
  defers : ρ L.defers = some (R.defers, 0)

/-- A block, and the model's, from a place of it on. -/
def ObjR (P : Program) (B : Nat) (ρ : Ren) (w : World) (o : SObj) (b off : Nat) : Prop :=
  match o with
  | .cells t n e => ∃ c fr, w.heap[b]? = some (.cells c e fr) ∧ (fr.1 = fr.2 ∨ c.size ≤ fr.1) ∧ off + n ≤ c.size ∧
      ∀ i v, t.get i = some v → ∃ r, c[off + i]? = some r ∧ VR P B (World.shp w) ρ v r
  | .map es clock => off = 0 ∧ ∃ rs, w.heap[b]? = some (.map rs clock) ∧ EsR P B (World.shp w) ρ es rs.toList
  | .strIter s pos => off = 0 ∧ ∃ bs, s = Str.of bs ∧ w.heap[b]? = some (.stringIter bs pos)
  | .mapIter m since seen last => off = 0 ∧ ∃ rm, w.heap[b]? = some (.mapIter rm since seen.toArray last) ∧ (match m with
      | none => rm = none
      | some k => ∃ rb, rm = some rb ∧ ρ k = some (rb, 0))
  | .loop L => off = 0 ∧ ∃ R, w.heap[b]? = some (.loop R) ∧ LoopR P B (World.shp w) ρ L R
  | .marker => off = 0 ∧ w.heap[b]? = some (.deferred (some []))

structure Sim (C : Cx) (ρ : Ren) (σ : SSt) (w : World) : Prop where
  objs : ∀ k o, σ.heap.get k = some o → ∃ b off, ρ k = some (b, off) ∧ C.B ≤ b ∧ ObjR C.P C.B ρ w o b off
  inj : ∀ k k' o o' b f f', σ.heap.get k = some o → σ.heap.get k' = some o' → ρ k = some (b, f) → ρ k' = some (b, f') → k = k'
  base : ∀ b o v, C.E.base b o = some v → b < C.B ∧ ∃ r, w.cell? ⟨b, o, none⟩ = some r ∧ VR C.P C.B (World.shp w) ρ v r
  size : C.B ≤ w.heap.size

/-- What lies elsewhere is as it was. -/
structure Fr (ρ : Ren) (σ : SSt) (w w' : World) : Prop where
  os : w'.os = w.os
  tape : w'.tape = w.tape
  output : w'.output = w.output
  size : w.heap.size ≤ w'.heap.size
  same : ∀ b, b < w.heap.size → (∀ k o off, σ.heap.get k = some o → ρ k ≠ some (b, off)) → w'.heap[b]? = w.heap[b]?
  shape : ∀ b p, w.shape? b = some p → w'.shape? b = some p

structure Ok (C : Cx) (ρ : Ren) (σ : SSt) (w : World) (ρ' : Ren) (σ' : SSt) (w' : World) : Prop where
  ext : ∀ k p, ρ k = some p → ρ' k = some p
  only : ∀ k, ρ' k ≠ ρ k → σ.next ≤ k ∧ k < σ'.next
  img : ∀ k o b off, σ'.heap.get k = some o → ρ' k = some (b, off) → w.heap.size ≤ b ∨ ∃ k0 o0 off0, σ.heap.get k0 = some o0 ∧ ρ k0 = some (b, off0)
  sim : Sim C ρ' σ' w'
  fr : Fr ρ σ w w'
  next : σ.next ≤ σ'.next

theorem Fr.refl (ρ : Ren) (σ : SSt) (w : World) : Fr ρ σ w w := ⟨rfl, rfl, rfl, Nat.le_refl _, fun _ _ _ => rfl, fun _ _ h => h⟩
theorem Ok.refl {C : Cx} {ρ : Ren} {σ : SSt} {w : World} (h : Sim C ρ σ w) : Ok C ρ σ w ρ σ w :=
  ⟨fun _ _ h => h, fun _ h => absurd rfl h, fun k o b off h1 h2 => .inr ⟨k, o, off, h1, h2⟩, h, Fr.refl _ _ _, Nat.le_refl _⟩
theorem Ok.trans {C : Cx} {ρ ρ1 ρ2 : Ren} {σ σ1 σ2 : SSt} {w w1 w2 : World} (h : Ok C ρ σ w ρ1 σ1 w1) (k : Ok C ρ1 σ1 w1 ρ2 σ2 w2) : Ok C ρ σ w ρ2 σ2 w2 where
  ext := fun i p hp => k.ext i p (h.ext i p hp)
  only := fun i hi => by
    by_cases h1 : ρ1 i = ρ i
    · rw [← h1] at hi
      have := k.only i hi
      have := h.next
      omega
    · have := h.only i h1
      have := k.next
      omega
  img := fun i o b off hg hr => by
    rcases k.img i o b off hg hr with h1 | ⟨k0, o0, off0, h1, h2⟩
    · exact .inl (Nat.le_trans h.fr.size h1)
    · exact h.img k0 o0 b off0 h1 h2
  sim := k.sim
  fr := {
    os := k.fr.os.trans h.fr.os
    tape := k.fr.tape.trans h.fr.tape
    output := k.fr.output.trans h.fr.output
    size := Nat.le_trans h.fr.size k.fr.size
    same := fun b hb hn => by
      rw [k.fr.same b (Nat.lt_of_lt_of_le hb h.fr.size) ?_]
      · exact h.fr.same b hb hn
      · intro i o off hg hr
        rcases h.img i o b off hg hr with h1 | ⟨k0, o0, off0, h1, h2⟩
        · omega
        · exact hn k0 o0 off0 h1 h2
    shape := fun b p hp => k.fr.shape b p (h.fr.shape b p hp) }
  next := Nat.le_trans h.next k.next
theorem Ok.vr {C : Cx} {ρ ρ1 : Ren} {σ σ1 : SSt} {w w1 : World} (h : Ok C ρ σ w ρ1 σ1 w1) {v : SV} {r : Value} (hv : VR C.P C.B (World.shp w) ρ v r) : VR C.P C.B (World.shp w1) ρ1 v r := hv.mono h.fr.shape h.ext
theorem Ok.vrs {C : Cx} {ρ ρ1 : Ren} {σ σ1 : SSt} {w w1 : World} (h : Ok C ρ σ w ρ1 σ1 w1) {v : List SV} {r : List Value} (hv : VRs C.P C.B (World.shp w) ρ v r) : VRs C.P C.B (World.shp w1) ρ1 v r := hv.mono h.fr.shape h.ext

/-! ### Activations -/
inductive DfR (ρ : Ren) : List Nat → List Deferred → Prop
  | nil : DfR ρ [] []
  | cons {m b : Nat} {d : Deferred} {ms : List Nat} {ds : List Deferred} (h : ρ m = some (b, 0)) (hd : d.target = .collected b) (t : DfR ρ ms ds) : DfR ρ (m :: ms) (d :: ds)
theorem DfR.mono {ρ ρ' : Ren} (hρ : ∀ k p, ρ k = some p → ρ' k = some p) : ∀ {ms : List Nat} {ds : List Deferred}, DfR ρ ms ds → DfR ρ' ms ds
  | _, _, .nil => .nil
  | _, _, .cons h hd t => .cons (hρ _ _ h) hd (DfR.mono hρ t)
structure ActR (C : Cx) (ρ : Ren) (w : World) (n : Nat) (a : SAct) (ra : Act) : Prop where
  tm : TmR C.P C.B (World.shp w) ρ a.tm ra.tmps
  size : n ≤ ra.tmps.size
  defers : DfR ρ a.defers ra.defers

theorem ActR.ok {C : Cx} {ρ ρ1 : Ren} {σ σ1 : SSt} {w w1 : World} {n : Nat} {a : SAct} {ra : Act} (h : ActR C ρ w n a ra) (k : Ok C ρ σ w ρ1 σ1 w1) : ActR C ρ1 w1 n a ra where
  tm := fun t => k.vr (h.tm t)
  size := h.size
  defers := h.defers.mono k.ext
theorem getT_set (tm : T SV) (d : Nat) (v : SV) (t : Nat) : getT (tm.set d (some v)) t = if t = d then v else getT tm t := by
  unfold getT
  rw [T.get_set]
  by_cases h : t = d
  · simp [h]
  · simp [h]
theorem ActR.put {C : Cx} {ρ : Ren} {w : World} {n : Nat} {a : SAct} {ra : Act} (h : ActR C ρ w n a ra) {dst : Option Nat} (hd : ∀ d, dst = some d → d < n) {v : SV} {r : Value} (hv : VR C.P C.B (World.shp w) ρ v r) : ActR C ρ w n (a.put dst v) (ra.put dst r) := by
  cases dst with
  | none => exact h
  | some d =>
    refine ⟨fun t => ?_, by simpa [Act.put] using h.size, h.defers⟩
    simp only [SAct.put, Act.put, getT_set]
    have hlt : d < ra.tmps.size := Nat.lt_of_lt_of_le (hd d rfl) h.size
    by_cases ht : t = d
    · subst ht
      rw [if_pos rfl]
      have : (ra.tmps.setIfInBounds t r).getD t undef = r := by simp [Array.getD_eq_getD_getElem?, hlt]
      rw [this]; exact hv
    · rw [if_neg ht]
      have : (ra.tmps.setIfInBounds d r).getD t undef = ra.tmps.getD t undef := by simp [Array.getD_eq_getD_getElem?, Array.getElem?_setIfInBounds_ne (Ne.symm ht)]
      rw [this]; exact h.tm t

theorem evX_sound {C : Cx} {ρ : Ren} {w : World} {n : Nat} {a : SAct} {ra : Act} (h : ActR C ρ w n a ra) {x : Operand} {sx : SX} (hx : compX x = some sx) : VR C.P C.B (World.shp w) ρ (evX a.tm sx) (ra.eval x) := by
  cases x with
  | tmp t => simp [compX] at hx; subst hx; exact h.tm t
  | const v =>
    simp only [compX, Option.map_eq_some_iff] at hx
    obtain ⟨s, hs, rfl⟩ := hx
    exact cval_sound hs
  | global g =>
    simp [compX] at hx; subst hx
    exact .ptr ⟨rfl, rfl, rfl⟩
  | func f => simp [compX] at hx; subst hx; exact VR.func f (rs := []) .nil

end Go.Sh
