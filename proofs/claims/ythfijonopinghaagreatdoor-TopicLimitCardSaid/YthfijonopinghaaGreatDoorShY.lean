/-
  The shadow machine, part Y: what came in, as the shadow's own: memory that is only read; arguments.
-/
import Derived.Test.YthfijonopinghaaGreatDoorShX
import Derived.ProofKit
import Derived.Deep.Slices
set_option linter.unusedSimpArgs false
set_option linter.unusedVariables false
namespace Go.Sh
open Go.RowKit
noncomputable section
/-- One cell's value. -/
def sh1 : Value → Option SV
  | .bool b => some (.bool b)
  | .int k n => some (.int k n)
  | .string s => some (.str (Str.of s))
  | .pointer none => some (.ptr none)
  | .pointer (some a) => match a.spot with
    | none => some (.ptr (some ⟨true, a.block, a.off⟩))
    | some _ => none
  | .slice none 0 0 => some (.slice none 0 (.kn 0))
  | .slice (some _) 0 0 => some (.slice (some ⟨true, 0, 0⟩) 0 (.kn 0))
  | .slice (some a) n c => match a.spot with
    | none => some (.slice (some ⟨true, a.block, a.off⟩) n (.kn c))
    | some _ => none
  | .map none => some (.map none)
  | .nilFunc => some .nilFunc
  | .nilIface => some .nilIface
  | _ => none
def shV : Value → Option SV
  | .agg cs => (cs.toList.mapM sh1).map .agg
  | v => sh1 v
/-- The memory of a world, as it is read. -/
def baseOf (w : World) (b o : Nat) : Option SV := (w.cell? ⟨b, o, none⟩).bind sh1
end
section
variable {P : Program} {B : Nat} {sh : Shp} {ρ : Ren}
theorem sh1_sound {v : Value} {s : SV} (h : sh1 v = some s) : VR P B sh ρ s v := by
  unfold sh1 at h
  split at h
  · cases h; exact .bool _
  · cases h; exact .int _ _
  · cases h; exact .str _
  · cases h; exact .ptrNil
  · split at h
    · rename_i hs; cases h; exact .ptr ⟨hs, rfl, rfl⟩
    · cases h
  · cases h; exact .sliceNil
  · cases h; exact .sliceZ0 _ _
  · split at h
    · rename_i hs; cases h; exact .slice _ _ ⟨hs, rfl, rfl⟩
    · cases h
  · cases h; exact .mapNil
  · cases h; exact .nilFunc
  · cases h; exact .nilIface
  · cases h
theorem shL_sound {l : List Value} {s : List SV} (h : l.mapM sh1 = some s) : VRs P B sh ρ s l := by
  obtain ⟨h1, h2⟩ := mapM_some h
  refine VRs.of_get h1.symm fun i v hv => ?_
  have hi : i < l.length := by rw [h1]; exact (List.getElem?_eq_some_iff.1 hv).1
  obtain ⟨y, hy, hm⟩ := h2 i l[i] (List.getElem?_eq_getElem hi)
  rw [hv] at hm
  cases hm
  exact ⟨_, List.getElem?_eq_getElem hi, sh1_sound hy⟩
theorem shV_sound {v : Value} {s : SV} (h : shV v = some s) : VR P B sh ρ s v := by
  unfold shV at h
  split at h
  · rename_i cs
    simp only [Option.map_eq_some_iff] at h
    obtain ⟨l, hl, rfl⟩ := h
    have := VR.agg (shL_sound (P := P) (B := B) (sh := sh) (ρ := ρ) hl)
    simpa using this
  · exact sh1_sound h
theorem baseOf_ok (w : World) : ∀ b o v, baseOf w b o = some v → b < w.heap.size ∧ ∃ r, w.cell? ⟨b, o, none⟩ = some r ∧ VR P w.heap.size (World.shp w) (fun _ => none) v r := by
  intro b o v h
  unfold baseOf at h
  cases hc : w.cell? ⟨b, o, none⟩ with
  | none => rw [hc] at h; cases h
  | some r =>
    rw [hc] at h
    exact ⟨cell_lt hc, r, rfl, sh1_sound h⟩
end
theorem mapM_append {α β : Type} {f : α → Option β} {l1 l2 : List α} {m1 m2 : List β} (h1 : l1.mapM f = some m1) (h2 : l2.mapM f = some m2) : (l1 ++ l2).mapM f = some (m1 ++ m2) := by
  simp [List.mapM_append, h1, h2]

/-! ### From the reading of data to the shadow's values -/
/-- What may lie in a cell. -/
inductive LT where
  | bool
  | int (k : IntKind)
  | str
  | slice (e : TypeId)
inductive CellT : LT → SV → Prop
  | bool (b : Bool) : CellT .bool (.bool b)
  | int (k : IntKind) (n : Int) : CellT (.int k) (.int k n)
  | str (s : ByteArray) : CellT .str (.str (Str.of s))
  | slice (e : TypeId) (a : Option SA) (n : Nat) (c : SCap) : CellT (.slice e) (.slice a n c)
inductive CellTs : List LT → List SV → Prop
  | nil : CellTs [] []
  | cons {t : LT} {ts : List LT} {s : SV} {l : List SV} (h : CellT t s) (r : CellTs ts l) : CellTs (t :: ts) (s :: l)
theorem CellTs.append {ts us : List LT} {l m : List SV} (h : CellTs ts l) (k : CellTs us m) : CellTs (ts ++ us) (l ++ m) := by
  induction h with
  | nil => exact k
  | cons h _ ih => exact .cons h ih
/-- A struct's fields: they lie one behind the other. -/
def lvFs (P : Program) (g : TypeId → Option (List LT)) : Nat → List Field → Nat → Option (List LT)
  | o, [], m => match Nat.beq o m with
    | true => some []
    | false => none
  | o, f :: fs, m => match Nat.beq f.offset o, g f.type, lvFs P g (o + P.cellsOf f.type) fs m with
    | true, some a, some b => some (a ++ b)
    | _, _, _ => none
/-- The cells of types of data without pointers, maps, functions, interfaces. -/
def lvT (P : Program) : Nat → TypeId → Option (List LT)
  | 0, _ => none
  | n + 1, t => match P.underlying t with
    | some .bool => some [.bool]
    | some (.int k) => some [.int k]
    | some .string => some [.str]
    | some (.slice e) => match Nat.blt 0 (P.cellsOf e) with
      | true => some [.slice e]
      | false => none
    | some (.struct fs) => lvFs P (lvT P n) 0 fs.toList (P.cellsOf t)
    | _ => none
section
variable {H : Type} {enc : TypeId × Value → H} {P : Program} {w : World} {base : Nat} {held : Bool}
theorem lvFs_spec {n : Nat} {fuel : Nat} (ih : ∀ t lt cs x, DataW.trod enc P w base (fun _ => true) held fuel t cs = some x → lvT P n t = some lt → ∃ l, cs.mapM sh1 = some l ∧ CellTs lt l) {cs : List Value} {m : Nat} (hm : cs.length = m) :
    ∀ (fs : List Field) (o : Nat) (lt : List LT), lvFs P (lvT P n) o fs m = some lt → (∀ (i : Nat) (f : Field), fs[i]? = some f → ∃ y, DataW.trod enc P w base (fun _ => true) held fuel f.type ((cs.drop f.offset).take (P.cellsOf f.type)) = some y) → ∃ l, (cs.drop o).mapM sh1 = some l ∧ CellTs lt l
  | [], o, lt, ho, hx => by
    simp only [lvFs] at ho
    split at ho
    · rename_i hb
      cases ho
      obtain rfl := Nat.eq_of_beq_eq_true hb
      exact ⟨[], by rw [← hm, List.drop_length]; rfl, .nil⟩
    · cases ho
  | f :: fs, o, lt, ho, hx => by
    simp only [lvFs] at ho
    split at ho
    · rename_i a b h1 h2 h3
      cases ho
      obtain rfl := Nat.eq_of_beq_eq_true h1
      obtain ⟨y, hy⟩ := hx 0 f rfl
      obtain ⟨l1, hl1, hv1⟩ := ih _ _ _ _ hy h2
      obtain ⟨l2, hl2, hv2⟩ := lvFs_spec ih hm fs _ _ h3 fun i g hg => hx (i + 1) g (by simpa using hg)
      refine ⟨l1 ++ l2, ?_, hv1.append hv2⟩
      have := mapM_append hl1 hl2
      rw [← List.drop_drop, List.take_append_drop] at this
      exact this
    · cases ho
theorem trod_sh : ∀ (n : Nat) (t : TypeId) (lt : List LT) (cs : List Value) (x : DataW H × List MemPlace) (fuel : Nat), DataW.trod enc P w base (fun _ => true) held fuel t cs = some x → lvT P n t = some lt → ∃ l, cs.mapM sh1 = some l ∧ CellTs lt l := by
  intro n
  induction n with
  | zero => intro t lt cs x fuel _ h; simp [lvT] at h
  | succ n ih =>
    intro t lt cs x fuel hx h
    unfold lvT at h
    split at h
    · rename_i hu
      cases h
      obtain ⟨b, rfl, _⟩ := DataW.trod_bool hu hx
      exact ⟨_, rfl, .cons (.bool b) .nil⟩
    · rename_i k hu
      cases h
      obtain ⟨b, rfl, _⟩ := DataW.trod_int hu hx
      exact ⟨_, rfl, .cons (.int k b) .nil⟩
    · rename_i hu
      cases h
      obtain ⟨b, rfl, _⟩ := DataW.trod_string hu hx
      exact ⟨_, rfl, .cons (.str b) .nil⟩
    · rename_i e hu
      split at h
      · rename_i he
        cases h
        have he := of_blt he
        rcases Go.Deep.open_slice hu hx with ⟨rfl, _⟩ | ⟨a, len, cap, m, k, D, Pl, rfl, hb, hl, hm, hmm, _, hi⟩
        · exact ⟨_, rfl, .cons (.slice _ _ _ _) .nil⟩
        · simp only [if_true] at hmm
          subst hmm
          cases m with
          | zero =>
            obtain rfl : len = 0 := by omega
            exact ⟨_, rfl, .cons (.slice _ _ _ _) .nil⟩
          | succ cap =>
            obtain ⟨cs', hc, _⟩ := hi 0 (by omega)
            obtain ⟨_, hcl, hat⟩ := World.cells?_some hc
            have h0 := hat 0 he
            have hs : ((a.add (0 * P.cellsOf e)).add 0).spot = none := by
              rw [List.getElem?_eq_getElem (by omega)] at h0
              exact World.cell?_spot h0
            have hs2 : a.spot = none := by simpa [Addr.add] using hs
            cases len with
            | zero => exact ⟨[.slice (some ⟨true, a.block, a.off⟩) 0 (.kn (cap + 1))], by simp [sh1, hs2], .cons (.slice _ _ _ _) .nil⟩
            | succ len => exact ⟨[.slice (some ⟨true, a.block, a.off⟩) (len + 1) (.kn (cap + 1))], by simp [sh1, hs2], .cons (.slice _ _ _ _) .nil⟩
      · cases h
    · rename_i fs hu
      obtain ⟨xs, k, rfl, _, hlen, hxl, hf⟩ := DataW.trod_struct hu hx
      have := lvFs_spec (fuel := k) (fun t lt cs x => ih t lt cs x k) hlen fs.toList 0 lt h fun i f hf2 => by
        have h1 := hf i f (by simpa using hf2)
        have hi : i < xs.length := by
          rw [hxl]
          have := (List.getElem?_eq_some_iff.1 hf2).1
          simpa using this
        rw [List.getElem?_eq_getElem hi] at h1
        exact ⟨_, h1⟩
      simpa using this
    · cases h
/-- An argument of one cell, as the shadow's. -/
theorem trod_one {n : Nat} {t : TypeId} {lt : LT} {v : Value} {d : DataW H} {ps : List MemPlace} (h : DataW.Trod enc P w base (fun _ => true) held t v d ps) (ht : lvT P n t = some [lt]) (hv : ∀ cs, v ≠ .agg cs) : ∃ s, shV v = some s ∧ CellT lt s := by
  obtain ⟨fuel, hf⟩ := h
  obtain ⟨l, hl, hl2⟩ := trod_sh n t _ _ _ fuel hf ht
  cases v with
  | agg cs => exact absurd rfl (hv cs)
  | _ =>
    simp only [Value.cells, List.mapM_cons, List.mapM_nil, Option.bind_eq_bind, Option.bind_eq_some_iff, Option.pure_def, Option.some.injEq] at hl
    obtain ⟨y, hy, _, rfl, rfl⟩ := hl
    cases hl2 with
    | cons h1 _ => exact ⟨y, hy, h1⟩
/-- A struct. -/
theorem trod_agg {n : Nat} {t : TypeId} {lt : List LT} {cs : Array Value} {d : DataW H} {ps : List MemPlace} (h : DataW.Trod enc P w base (fun _ => true) held t (.agg cs) d ps) (ht : lvT P n t = some lt) : ∃ l, shV (.agg cs) = some (.agg l) ∧ CellTs lt l := by
  obtain ⟨fuel, hf⟩ := h
  obtain ⟨l, hl, hl2⟩ := trod_sh n t _ _ _ fuel hf ht
  exact ⟨l, by simp only [Value.cells] at hl; simp [shV, hl], hl2⟩
end
end Go.Sh
