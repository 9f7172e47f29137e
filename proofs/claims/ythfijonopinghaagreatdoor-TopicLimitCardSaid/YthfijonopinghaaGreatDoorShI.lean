/-
  The shadow machine, part I: the operations with memory, first part (but for maps and 'append').
-/
import Derived.Test.YthfijonopinghaaGreatDoorShH
import Derived.Laws.NewFold
import Derived.Laws.Append
import Derived.Laws.BytesString
set_option linter.unusedSimpArgs false
set_option linter.unusedVariables false
namespace Go.Sh
section
variable {C : Cx} {ρ : Ren} {σ : SSt} {w : World}

theorem Sim.drew (h : Sim C ρ σ w) : Sim C ρ σ w.drew := ⟨h.objs, h.inj, h.base, h.size⟩
theorem Ok.drew (h : Sim C ρ σ w) : Ok C ρ σ w ρ σ w.drew :=
  ⟨fun _ _ h => h, fun _ h => absurd rfl h, fun k o b off h1 h2 => .inr ⟨k, o, off, h1, h2⟩, h.drew, ⟨rfl, rfl, rfl, Nat.le_refl _, fun _ _ _ => rfl, fun _ _ h => h⟩, Nat.le_refl _⟩
/-- An operation that yields a value does what the shadow's does. -/
def Does (C : Cx) (ρ : Ren) (σ : SSt) (w : World) (s : Sem Value) (Q : SV × SSt → Prop) : Prop :=
  ∃ v σ' ρ' rv w', Q (v, σ') ∧ Ok C ρ σ w ρ' σ' w' ∧ s.run C.P w = .ok rv w' ∧ VR C.P C.B (World.shp w') ρ' v rv
def DoesU (C : Cx) (ρ : Ren) (σ : SSt) (w : World) (s : Sem Unit) (Q : SV × SSt → Prop) : Prop :=
  ∃ σ' ρ' w', Q (undefS, σ') ∧ Ok C ρ σ w ρ' σ' w' ∧ s.run C.P w = .ok () w'
def Free (ρ : Ren) (σ : SSt) (hi : Nat) : Prop := ∀ k, σ.next ≤ k → k < hi → ρ k = none
abbrev Al (e : Ev (SV × SSt)) (hi : Nat) (Q : SV × SSt → Prop) : Prop := e.all fun r => r.2.next ≤ hi ∧ Q r
variable {hi : Nat} {Q : SV × SSt → Prop}

theorem Free.new {o : SObj} (hf : Free ρ σ hi) (h : (σ.alloc o).next ≤ hi) : ρ σ.next = none := hf _ (Nat.le_refl _) h
theorem ar_new (ρ : Ren) (k b : Nat) : AR (upd ρ k (b, 0)) ⟨false, k, 0⟩ ⟨b, 0, none⟩ := ⟨rfl, 0, upd_same _ _ _, rfl⟩
theorem newCells_next (σ : SSt) (e : TypeId) (cs : List SV) : (σ.newCells e cs).next = σ.next + 1 := rfl
/-- A new row of cells, the model's whole. -/
theorem Ok.newArr (h : Sim C ρ σ w) (hf : ρ σ.next = none) {e : TypeId} {cs : List SV} {arr : Array Value} (hv : VRs C.P C.B (World.shp w) ρ cs arr.toList) :
    Ok C ρ σ w (upd ρ σ.next (w.heap.size, 0)) (σ.newCells e cs) (w.alloc (.cells arr e)) := by
  have := Ok.newCells h hf (e := e) (rest := []) hv
  rw [List.append_nil, Array.toArray_toList] at this
  exact this
theorem shape_new (w : World) (arr : Array Value) (e : TypeId) (fr : Nat × Nat) : World.shp (w.alloc (.cells arr e fr)) w.heap.size = some (e, arr.size) := by
  show World.shape? _ _ = _
  unfold World.shape?
  rw [heap_push_new]
theorem freeze_alloc (w : World) (arr : Array Value) (e : TypeId) (off : Nat) : (w.alloc (.cells arr e)).freeze ⟨w.heap.size, off, none⟩ 1 = w.alloc (.cells arr e (off, off + 1)) := by
  have : (w.heap.push (.cells arr e)).modify w.heap.size (fun
      | .cells c elem (lo, hi) => .cells c elem (if lo == hi then (off, off + 1) else (min lo off, max hi (off + 1)))
      | o => o) = w.heap.push (.cells arr e (off, off + 1)) := by
    apply Array.ext
    · simp
    · intro i h1 h2
      rw [Array.getElem_modify]
      by_cases hi : w.heap.size = i
      · subst hi; simp
      · rw [if_neg hi]
        have : i < w.heap.size := by simp at h2; omega
        rw [Array.getElem_push_lt this, Array.getElem_push_lt this]
  simp only [World.freeze, World.alloc, Nat.one_ne_zero, if_false]
  rw [← this]
  rfl

/-! ### alloc, box, buildSlice -/
theorem alloc_sound (h : Sim C ρ σ w) (hf : Free ρ σ hi) {elem : TypeId} {z : SV} (hz : zeroT C.P elem = some z) {tm : T SV} (he : Al (mAlloc elem z.cells tm σ) hi Q) :
    Does C ρ σ w (Instr.alloc elem true (.tuple #[])) Q := by
  obtain ⟨h1, h2⟩ := he
  obtain ⟨v, hv, hvr⟩ := zeroT_sound (B := C.B) (sh := World.shp w) (ρ := ρ) hz
  refine ⟨_, _, _, .pointer (some ⟨w.heap.size, 0, none⟩), w.alloc (.cells v.cells elem), h2, Ok.newArr h (hf.new h1) hvr.cells, ?_, .ptr (ar_new _ _ _)⟩
  simp [Instr.alloc, Sem.run_bind, hv w, newVar, newRow]
theorem box_sound (h : Sim C ρ σ w) (hf : Free ρ σ hi) {elem : TypeId} {x : SX} {rx : Value} {tm : T SV} (hx : VR C.P C.B (World.shp w) ρ (evX tm x) rx) (he : Al (mBox elem x tm σ) hi Q) :
    Does C ρ σ w (Instr.box elem rx) Q := by
  simp only [Al, mBox] at he
  split at he
  · obtain ⟨h1, h2⟩ := he
    exact ⟨_, _, _, .pointer (some ⟨w.heap.size, 0, none⟩), w.alloc (.cells rx.cells elem), h2, Ok.newArr h (hf.new h1) hx.cells, by simp [Instr.box, newVar, newRow], .ptr (ar_new _ _ _)⟩
  · exact he.elim
theorem arr0 (f : Nat → Value) : (Array.range 0).map f = #[] := by apply Array.ext'; simp
theorem repL_length (z : List SV) : ∀ n, (repL z n).length = n * z.length
  | 0 => by simp [repL]
  | n + 1 => by simp [repL, repL_length z n, Nat.succ_mul, Nat.add_comm]
theorem repL_get (z : List SV) (hz : 0 < z.length) : ∀ n i, (repL z n)[i]? = if i < n * z.length then z[i % z.length]? else none
  | 0, i => by simp [repL]
  | n + 1, i => by
    simp only [repL]
    rw [List.getElem?_append]
    by_cases h : i < z.length
    · rw [if_pos h, if_pos (by rw [Nat.succ_mul]; omega), Nat.mod_eq_of_lt h]
    · rw [if_neg h, repL_get z hz n (i - z.length)]
      have e1 : (i - z.length) % z.length = i % z.length := by rw [← Nat.mod_eq_sub_mod (by omega)]
      rw [e1]
      by_cases h2 : i < (n + 1) * z.length
      · rw [if_pos h2, if_pos (by rw [Nat.succ_mul] at h2; omega)]
      · rw [if_neg h2, if_neg (by rw [Nat.succ_mul] at h2; omega)]
theorem rep_sound {P : Program} {B : Nat} {sh : Shp} {zs : List SV} {rz : Array Value} (hz : VRs P B sh ρ zs rz.toList) (h0 : 0 < zs.length) (n : Nat) :
    VRs P B sh ρ (repL zs n) ((Array.range (n * zs.length)).map fun i => rz[i % rz.size]!).toList := by
  have hl : zs.length = rz.size := by have := hz.length; simpa using this
  refine VRs.of_get (by rw [repL_length]; simp) fun i v hi => ?_
  rw [repL_get zs h0] at hi
  split at hi
  · rename_i hlt
    obtain ⟨r, h1, h2⟩ := hz.get hi
    refine ⟨r, ?_, h2⟩
    have hm : i % rz.size < rz.size := Nat.mod_lt _ (by omega)
    simp only [Array.toList_map, Array.toList_range, List.getElem?_map, List.getElem?_range hlt, Option.map_some]
    rw [hl] at h1
    have : rz[i % rz.size]? = some r := by simpa using h1
    simp [getElem!_def, this]
  · cases hi
theorem zeroCells_sound {P : Program} {B : Nat} {sh : Shp} {z : SV} {rz : Value} (hz : VR P B sh ρ z rz) (h0 : 0 < z.cells.length) (n : Nat) : VRs P B sh ρ (repL z.cells n) (Builtin.zeroCells rz.cells n).toList := by
  have := rep_sound hz.cells h0 n
  have hl : z.cells.length = rz.cells.size := by have := hz.cells.length; simpa using this
  unfold Builtin.zeroCells
  rw [← hl]
  rw [← hl] at this
  exact this
theorem buildSlice_sound (h : Sim C ρ σ w) (hf : Free ρ σ hi) {t elem : TypeId} {size len : Nat} {z : SV} (ht : C.P.underlying t = some (.slice elem)) (hs : sizeT C.P elem = some size) (hz : zeroT C.P elem = some z)
    (hb : ¬ len * size > 2 ^ 24) (hzl : z.cells.length = size) (hp : 0 < size) {parts : List (Nat × SX)} {rparts : Array (Nat × Value)} {tm : T SV} (hl : parts.length = rparts.size)
    (hps : ∀ (i j : Nat) (x : SX), parts[i]? = some (j, x) → ∃ r, rparts[i]? = some (j, r) ∧ VR C.P C.B (World.shp w) ρ (evX tm x) r)
    (he : Al (mBuildSlice elem size len z.cells parts tm σ) hi Q) : Does C ρ σ w (Instr.buildSlice t len rparts) Q := by
  simp only [Al, mBuildSlice] at he
  split at he
  · exact he.elim
  · rename_i cs hcs
    split at he
    · obtain ⟨h1, h2⟩ := he
      obtain ⟨v, hv, hvr⟩ := zeroT_sound (B := C.B) (sh := World.shp w) (ρ := ρ) hz
      have key : ∀ arr : Array Value, VRs C.P C.B (World.shp w) ρ (repL z.cells len) arr.toList → ∃ rc, Instr.fill (fun i => some (i * size, size)) arr rparts.toList = some rc ∧ VRs C.P C.B (World.shp w) ρ cs rc.toList := by
        intro arr harr
        refine fillS_sound harr _ (by simpa using hl) (fun i o s u hi => ?_) hcs
        rw [List.getElem?_map] at hi
        simp only [Option.map_eq_some_iff] at hi
        obtain ⟨⟨j, x⟩, hj, hx⟩ := hi
        simp only [Prod.mk.injEq] at hx
        obtain ⟨rfl, rfl, rfl⟩ := hx
        obtain ⟨r, h3, h4⟩ := hps i j x hj
        exact ⟨j, r, by simpa using h3, rfl, h4⟩
      have fin : ∀ rc : Array Value, VRs C.P C.B (World.shp w) ρ cs rc.toList → (Instr.buildSlice t len rparts).run C.P w = .ok (.slice (some ⟨w.heap.size, 0, none⟩) len len) (w.alloc (.cells rc elem)) → Does C ρ σ w (Instr.buildSlice t len rparts) Q := by
        intro rc h3 h4
        exact ⟨_, _, _, _, _, h2, Ok.newArr h (hf.new h1) h3, h4, .slice len len (ar_new _ _ _)⟩
      by_cases h0 : len = 0
      · subst h0
        obtain ⟨rc, h3, h4⟩ := key #[] .nil
        refine fin rc h4 ?_
        simp [Instr.buildSlice, Sem.run_bind, run_underlying ht, run_sizeOf hs, arr0, h3, newRow]
      · have hne : ¬ (len * size = 0) := by
          intro e
          rcases Nat.mul_eq_zero.1 e with e | e <;> omega
        have hrep := rep_sound hvr.cells (by omega) len
        rw [hzl] at hrep
        obtain ⟨rc, h3, h4⟩ := key _ hrep
        refine fin rc h4 ?_
        have hne' : ¬ (len = 0 ∨ size = 0) := by omega
        have hb' : ¬ (2 ^ 24 < len * size) := hb
        simp only [Instr.buildSlice, Sem.run_bind, run_underlying ht, run_sizeOf hs, Result.andThen_ok, hne, hb', if_false, hv w, Sem.run_pure, h3, newRow, run_newObj_alloc, gt_iff_lt, bind_assoc, pure_bind]
    · exact he.elim

/-! ### load, store -/
theorem load_sound (h : Sim C ρ σ w) {t : TypeId} {agg : Option Nat} (ht : aggT C.P t = some agg) {x : SX} {rx : Value} {tm : T SV} (hx : VR C.P C.B (World.shp w) ρ (evX tm x) rx) (he : Al (mLoad C.E agg x tm σ) hi Q) :
    Does C ρ σ w (Instr.loadAt t rx) Q := by
  simp only [Al, mLoad] at he
  split at he
  · rename_i a ha
    rw [ha] at hx
    obtain ⟨r, rfl, har⟩ := vr_ptr hx
    split at he
    · rename_i v hv
      obtain ⟨rv, h1, h2⟩ := rdVar_sound h har ht hv
      exact ⟨_, _, _, rv, w, he.2, Ok.refl h, by simp [Instr.loadAt, Instr.sureAddr, Sem.run_bind, h1], h2⟩
    · exact he.elim
  · exact he.elim
theorem store_sound (h : Sim C ρ σ w) {t : TypeId} {size : Nat} (ht : sizeT C.P t = some size) {x v : SX} {rx rv : Value} {tm : T SV} (hx : VR C.P C.B (World.shp w) ρ (evX tm x) rx) (hv : VR C.P C.B (World.shp w) ρ (evX tm v) rv)
    (he : Al (mStore size x v tm σ) hi Q) : DoesU C ρ σ w (Instr.storeAt t rx rv) Q := by
  simp only [Al, mStore] at he
  split at he
  · rename_i a ha
    rw [ha] at hx
    obtain ⟨r, rfl, har⟩ := vr_ptr hx
    split at he
    · rename_i hsz
      split at he
      · rename_i σ' hw
        obtain ⟨w', h1, h2⟩ := wr_sound h har hv.cells hw
        have hl : rv.cells.size = size := by
          have h3 := hv.cells.length
          have h4 := Nat.eq_of_beq_eq_true hsz
          simp at h3
          omega
        exact ⟨σ', ρ, w', he.2, h2, by simp [Instr.storeAt, Instr.sureAddr, storeVar, Sem.run_bind, run_sizeOf ht, hl, h1]⟩
      · exact he.elim
    · exact he.elim
  · exact he.elim

/-! ### Strings and bytes -/
theorem strBytes_sound {P : Program} {B : Nat} {sh : Shp} (bs : ByteArray) (n : Nat) (hn : n ≤ bs.size) :
    VRs P B sh ρ (((Str.of bs).bytes 0 n).map fun (b : Nat) => .int .u8 b) (((bs.extract 0 n).data.map fun b => Value.int .u8 b.toNat)).toList := by
  have h1 : (Str.of bs).bytes 0 n = ((bs.data.toList.drop 0).take n).map (·.toNat) := Str.bytes_ofList _ _ _ (by rw [Str.data_length]; omega)
  rw [h1, Array.toList_map, Str.extract_toList]
  simp only [Nat.sub_zero, List.drop_zero, List.map_map]
  generalize bs.data.toList.take n = l
  induction l with
  | nil => exact .nil
  | cons b l ih => exact .cons (.int _ _) ih
theorem convBytes_sound (h : Sim C ρ σ w) (hf : Free ρ σ hi) {elem : TypeId} {x : SX} {rx : Value} {tm : T SV} (hx : VR C.P C.B (World.shp w) ρ (evX tm x) rx) (he : Al (mConvBytes elem x tm σ) hi Q) :
    ∃ bs, rx = .string bs ∧ Does C ρ σ w (Conv.stringToBytes elem bs) Q := by
  simp only [Al, mConvBytes] at he
  split at he
  · rename_i s hs
    rw [hs] at hx
    obtain ⟨bs, rfl, rfl⟩ := vr_str hx
    split at he
    · obtain ⟨h1, h2⟩ := he
      refine ⟨bs, rfl, ?_⟩
      rw [Str.of_len] at h1 h2
      have hge : bs.size ≤ grownCap w bs.size 0 elem := by simp [grownCap, Question.cut]
      let arr : Array Value := (bs.data.map fun b => Value.int .u8 b.toNat) ++ Array.replicate (grownCap w bs.size 0 elem - bs.size) (.int .u8 0)
      have hsz : arr.size = grownCap w bs.size 0 elem := by
        have : bs.data.size = bs.size := rfl
        simp [arr, this]; omega
      have hcs := strBytes_sound (P := C.P) (B := C.B) (sh := World.shp w) (ρ := ρ) bs bs.size (Nat.le_refl _)
      have hex : bs.extract 0 bs.size = bs := by simp
      rw [hex] at hcs
      have hsim := (Sim.drew h)
      have hok : Ok C ρ σ w.drew (upd ρ σ.next (w.heap.size, 0)) (σ.newCells elem (((Str.of bs).bytes 0 bs.size).map fun (b : Nat) => .int .u8 b)) (w.drew.alloc (.cells arr elem (arr.size, arr.size + 1))) := by
        refine Ok.new hsim (hf.new h1) ⟨arr, (arr.size, arr.size + 1), heap_push_new _ _, .inr (Nat.le_refl _), ?_, fun i v hi => ?_⟩
        · have := hcs.length
          have : bs.data.size = bs.size := rfl
          simp at *
          simp [arr]
          omega
        · rw [tget_putList0] at hi
          obtain ⟨r, h3, h4⟩ := hcs.get hi
          refine ⟨r, ?_, h4.mono (fun b p hb => (shape_of_heap (heap_push w.drew _ b (shape_lt hb))).trans hb) (upd_ext ρ _ (hf.new h1))⟩
          have h5 : (bs.data.map fun b => Value.int .u8 b.toNat)[i]? = some r := by simpa using h3
          have h6 := (Array.getElem?_eq_some_iff.1 h5).1
          simp only [arr, Nat.zero_add, Array.getElem?_append_left h6]
          exact h5
      refine ⟨_, _, _, .slice (some ⟨w.heap.size, 0, none⟩) bs.size (grownCap w bs.size 0 elem), _, h2, (Ok.drew h).trans hok, ?_, ?_⟩
      · have hfz := freeze_alloc w.drew arr elem arr.size
        have hshp : (w.drew.alloc (.cells arr elem)).shape? w.heap.size = some (elem, arr.size) := shape_new w.drew arr elem (0, 0)
        simp only [Conv.stringToBytes, Sem.run_bind, run_choose_drew, Question.forced, Bool.false_eq_true, if_false, Result.andThen_ok, newRow, run_newObj_alloc, Sem.run_pure, markStringish, run_shape]
        show Result.andThen (Sem.run C.P (match (w.drew.alloc (.cells arr elem)).shape? w.heap.size with
          | some (_, n) => freeze { block := w.heap.size, off := n } 1
          | _ => pure ()) (w.drew.alloc (.cells arr elem))) _ = _
        rw [hshp]
        simp only [Result.andThen_ok, run_freeze]
        have hfz' : (w.drew.alloc (.cells arr elem)).freeze { block := w.heap.size, off := arr.size } 1 = w.drew.alloc (.cells arr elem (arr.size, arr.size + 1)) := hfz
        rw [hfz']
        rfl
      · refine .sliceU _ _ _ (ar_new _ _ _) hge (shape_new w.drew arr elem _) ?_
        show 0 + _ * 1 ≤ arr.size
        omega
    · exact he.elim
  · exact he.elim
theorem bytesOfL_sound {P : Program} {B : Nat} {sh : Shp} : ∀ {l : List SV} {bs : List Nat} {rs : List Value}, bytesOfL l = some bs → VRs P B sh ρ l rs → ∃ ns : List Int, rs = ns.map (Value.int .u8) ∧ bs = ns.map fun n => n.toNat % 256 := by
  intro l
  induction l with
  | nil => intro bs rs h hv; cases hv; simp [bytesOfL] at h; subst h; exact ⟨[], rfl, rfl⟩
  | cons v l ih =>
    intro bs rs h hv
    cases hv with
    | cons h1 h2 =>
      unfold bytesOfL at h
      split at h
      · rename_i heq; cases heq
      · rename_i n l' heq
        cases heq
        split at h
        · rename_i bs' hb
          cases h
          obtain ⟨ns, rfl, rfl⟩ := ih hb h2
          have := vr_int h1
          subst this
          exact ⟨n :: ns, rfl, rfl⟩
        · cases h
      · cases h
theorem foldl_push (ns : List Int) : ∀ s : ByteArray, ns.foldl (fun r n => r.push (UInt8.ofNat n.toNat)) s = s ++ ByteArray.mk (ns.map fun n => UInt8.ofNat n.toNat).toArray := by
  induction ns with
  | nil => intro s; simp; apply ByteArray.ext; simp
  | cons n ns ih =>
    intro s
    rw [List.foldl_cons, ih]
    apply ByteArray.ext
    simp [ByteArray.push, ByteArray.data_append]
theorem convStr_sound (h : Sim C ρ σ w) {x : SX} {rx : Value} {tm : T SV} (hx : VR C.P C.B (World.shp w) ρ (evX tm x) rx) (he : Al (mConvStr C.E x tm σ) hi Q) :
    (∃ a n c, rx = .slice a n c) ∧ Does C ρ σ w (Conv.bytesToString rx) Q := by
  simp only [Al, mConvStr] at he
  split at he
  · rename_i n c hs
    rw [hs] at hx
    cases hx
    exact ⟨⟨_, _, _, rfl⟩, _, _, _, _, w, he.2, Ok.refl h, rfl, .str ByteArray.empty⟩
  · rename_i a n c hs
    rw [hs] at hx
    split at he
    · exact he.elim
    · rename_i l hl
      split at he
      · rename_i bs hbs
        have fin : ∀ (r : Addr) (cc : Nat), rx = .slice (some r) n cc → (n = 0 ∨ AR ρ a r) → (∃ a n c, rx = .slice a n c) ∧ Does C ρ σ w (Conv.bytesToString rx) Q := by
          intro r cc e har
          subst e
          have hld : ∃ rs : List Value, (loadCells r n).run C.P w = .ok rs.toArray w ∧ VRs C.P C.B (World.shp w) ρ l rs := by
            rcases har with rfl | har
            · simp [rdL] at hl; subst hl; exact ⟨[], rfl, .nil⟩
            · obtain ⟨rs, h1, h2, _⟩ := loadCells_sound h har hl
              exact ⟨rs, h1, h2⟩
          obtain ⟨rs, h1, h2⟩ := hld
          obtain ⟨ns, rfl, rfl⟩ := bytesOfL_sound hbs h2
          refine ⟨⟨_, _, _, rfl⟩, _, _, _, _, w, he.2, Ok.refl h, run_bytesToString w r n cc ns h1, ?_⟩
          have e1 : (ns.map fun n => n.toNat % 256) = (ns.map (·.toNat)).map (· % 256) := by simp
          rw [e1, Str.ofNats_mod, foldl_push]
          have e2 : Str.ofList ((ns.map (·.toNat)).map UInt8.ofNat) = Str.of (ByteArray.empty ++ ByteArray.mk (ns.map fun n => UInt8.ofNat n.toNat).toArray) := by
            unfold Str.of
            simp [ByteArray.data_append, Function.comp_def]
          rw [e2]
          exact .str _
        generalize hrx : rx = r at hx
        cases hx with
        | slice n c hh => exact hrx ▸ fin _ _ hrx (.inr hh)
        | sliceU n c s hh => exact hrx ▸ fin _ _ hrx (.inr hh)
        | sliceZ a r s => exact hrx ▸ fin _ _ hrx (.inl rfl)
        | sliceZ0 a r => exact hrx ▸ fin _ _ hrx (.inl rfl)
      · exact he.elim
  · exact he.elim

/-! ### Maps and slices that are made -/
theorem mkMap_sound (h : Sim C ρ σ w) (hf : Free ρ σ hi) {t : TypeId} {tm : T SV} (he : Al (mMkMap tm σ) hi Q) : Does C ρ σ w (Instr.makeMap t none) Q := by
  obtain ⟨h1, h2⟩ := he
  exact ⟨_, _, _, .map (some w.heap.size), w.alloc (.map #[] 0), h2, Ok.new h (hf.new h1) ⟨rfl, #[], heap_push_new _ _, .nil⟩, by simp [Instr.makeMap], .map (upd_same _ _ _)⟩
theorem mkSlice_sound (h : Sim C ρ σ w) (hf : Free ρ σ hi) {t elem : TypeId} {size bytes : Nat} {z : SV} (ht : C.P.underlying t = some (.slice elem)) (hs : sizeT C.P elem = some size) (hby : bytesT C.P elem = some bytes) (hz : zeroT C.P elem = some z)
    (hzl : z.cells.length = size) (hp : 0 < size) {l c : SX} {rl rc : Value} {tm : T SV} (hl : VR C.P C.B (World.shp w) ρ (evX tm l) rl) (hc : VR C.P C.B (World.shp w) ρ (evX tm c) rc)
    (he : Al (mMkSlice elem size bytes z.cells l c tm σ) hi Q) : Does C ρ σ w (Instr.makeSlice t rl rc) Q := by
  simp only [Al, mMkSlice] at he
  split at he
  · rename_i k1 ln k2 cp e1 e2
    rw [e1] at hl
    rw [e2] at hc
    obtain rfl := vr_int hl
    obtain rfl := vr_int hc
    split at he
    · rename_i hb
      obtain ⟨b1, b2, b3, b4, b5⟩ := hb
      obtain ⟨h1, h2⟩ := he
      obtain ⟨v, hv, hvr⟩ := zeroT_sound (B := C.B) (sh := World.shp w) (ρ := ρ) hz
      have wl : IntKind.i64.wrap ln = ln := wrap_in .i64 ln (by simp [loK]; omega) (by simp [hiK]; omega)
      have wc : IntKind.i64.wrap cp = cp := wrap_in .i64 cp (by simp [loK]; omega) (by simp [hiK]; omega)
      have hinf : ∃ i, C.P.info? elem = some i ∧ i.bytes = bytes := by simpa [bytesT] using hby
      obtain ⟨i, hi1, hi2⟩ := hinf
      have n1 : ¬ (cp < 0) := by omega
      have n2 : ¬ ((281474976710656 : Int) < (i.bytes : Int) * cp) := by rw [hi2]; omega
      have n3 : ¬ (ln < 0) := by omega
      have n4 : ¬ (cp < ln) := by omega
      have fin : ∀ arr : Array Value, VRs C.P C.B (World.shp w) ρ (repL z.cells cp.toNat) arr.toList → (Instr.makeSlice t (.int k1 ln) (.int k2 cp)).run C.P w = .ok (.slice (some ⟨w.heap.size, 0, none⟩) ln.toNat cp.toNat) (w.alloc (.cells arr elem)) → Does C ρ σ w (Instr.makeSlice t (.int k1 ln) (.int k2 cp)) Q := by
        intro arr h3 h4
        exact ⟨_, _, _, _, _, h2, Ok.newArr h (hf.new h1) h3, h4, .slice _ _ (ar_new _ _ _)⟩
      have hti : (typeInfo elem).run C.P w = .ok i w := by simp [typeInfo, hi1]
      by_cases h0 : cp.toNat = 0
      · refine fin #[] (by rw [h0]; exact .nil) ?_
        have hcz : cp = 0 := by omega
        have hlz : ln = 0 := by omega
        subst hcz hlz
        have w0 : IntKind.i64.wrap 0 = 0 := by decide
        simp [Instr.makeSlice, Sem.run_bind, run_underlying ht, asInt, asIntOf, hti, run_sizeOf hs, newRow, w0, arr0]
      · refine fin _ (by have := rep_sound hvr.cells (by omega) cp.toNat; rw [hzl] at this; exact this) ?_
        have hne : ¬ (cp.toNat * size = 0) := by
          intro e
          rcases Nat.mul_eq_zero.1 e with e | e <;> omega
        simp [Instr.makeSlice, Sem.run_bind, run_underlying ht, asInt, asIntOf, hti, run_sizeOf hs, newRow, wl, wc, n1, n2, n3, n4, hne, hv w]
    · exact he.elim
  · exact he.elim
end
end Go.Sh
