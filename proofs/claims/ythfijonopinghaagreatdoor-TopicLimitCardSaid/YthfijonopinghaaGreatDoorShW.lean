/-
  The shadow machine, part W: functions that are taken by what was shown of them: closed ones.
-/
import Derived.Test.YthfijonopinghaaGreatDoorShV
set_option linter.unusedSimpArgs false
set_option linter.unusedVariables false
namespace Go.Sh
open Go.RowKit
section
variable {C : Cx} {ρ : Ren} {σ : SSt} {w w' : World}
theorem shape_below (hb : Below w.heap.size w w') {b : Nat} {p : TypeId × Nat} (h : w.shape? b = some p) : w'.shape? b = some p := by
  rw [shape_of_heap (hb.block b (shape_lt h))]; exact h
/-- What has come behind all that was is nothing to the shadow. -/
theorem Ok.below (h : Sim C ρ σ w) (hb : Below w.heap.size w w') : Ok C ρ σ w ρ σ w' where
  ext := fun _ _ h => h
  only := fun _ h => absurd rfl h
  img := fun k o b off h1 h2 => .inr ⟨k, o, off, h1, h2⟩
  sim := {
    objs := fun k o hk => by
      obtain ⟨b, off, h1, h2, h3⟩ := h.objs k o hk
      exact ⟨b, off, h1, h2, ObjR.mono (fun b p hp => shape_below hb hp) (fun _ _ h => h) (hb.block b h3.lt) h3⟩
    inj := h.inj
    base := fun b o v hv => by
      obtain ⟨h1, r, h2, h3⟩ := h.base b o v hv
      refine ⟨h1, r, ?_, h3.mono (fun b p hp => shape_below hb hp) (fun _ _ h => h)⟩
      rw [cell_of_heap (a := ⟨b, o, none⟩) (hb.block b (Nat.lt_of_lt_of_le h1 h.size))]
      exact h2
    size := Nat.le_trans h.size hb.size }
  fr := ⟨hb.os, hb.tape, hb.output, hb.size, fun b hb' _ => hb.block b hb', fun b p hp => shape_below hb hp⟩
  next := Nat.le_refl _

/-- Values that lead nowhere. -/
inductive Plain : SV → Prop
  | bool (b : Bool) : Plain (.bool b)
  | int (k : IntKind) (n : Int) : Plain (.int k n)
  | str (s : Str) : Plain (.str s)
  | ptrNil : Plain (.ptr none)
  | nilIface : Plain .nilIface
  | agg {cs : List SV} (h : ∀ v, v ∈ cs → Plain v) : Plain (.agg cs)
  | tuple {cs : List SV} (h : ∀ v, v ∈ cs → Plain v) : Plain (.tuple cs)
mutual
theorem VR.plain {P : Program} {B B' : Nat} {sh sh' : Shp} {ρ ρ' : Ren} : ∀ {v : SV} {r : Value}, VR P B sh ρ v r → Plain v → VR P B' sh' ρ' v r
  | _, _, .bool b, _ => .bool b
  | _, _, .int k n, _ => .int k n
  | _, _, .str s, _ => .str s
  | _, _, .ptrNil, _ => .ptrNil
  | _, _, .ptr h, hp => by cases hp
  | _, _, .sliceNil, hp => by cases hp
  | _, _, .slice n c h, hp => by cases hp
  | _, _, .sliceU n c s h hc h1 h2, hp => by cases hp
  | _, _, .sliceZ a r s, hp => by cases hp
  | _, _, .sliceZ0 a r, hp => by cases hp
  | _, _, .mapNil, hp => by cases hp
  | _, _, .map h, hp => by cases hp
  | _, _, .func f h, hp => by cases hp
  | _, _, .yield h, hp => by cases hp
  | _, _, .nilFunc, hp => by cases hp
  | _, _, .iface t h, hp => by cases hp
  | _, _, .nilIface, _ => .nilIface
  | _, _, .agg h, .agg hp => .agg (VRs.plain h hp)
  | _, _, .tuple h, .tuple hp => .tuple (VRs.plain h hp)
theorem VRs.plain {P : Program} {B B' : Nat} {sh sh' : Shp} {ρ ρ' : Ren} : ∀ {vs : List SV} {rs : List Value}, VRs P B sh ρ vs rs → (∀ v, v ∈ vs → Plain v) → VRs P B' sh' ρ' vs rs
  | _, _, .nil, _ => .nil
  | _, _, .cons h t, hp => .cons (VR.plain h (hp _ (by simp))) (VRs.plain t fun v hv => hp v (by simp [hv]))
end
def plainB : Nat → SV → Bool
  | 0, _ => false
  | n + 1, v => match v with
    | .bool _ | .int _ _ | .str _ | .ptr none | .nilIface => true
    | .agg cs | .tuple cs => cs.all (plainB n)
    | _ => false
theorem plainB_sound : ∀ (n : Nat) {v : SV}, plainB n v = true → Plain v
  | 0, _, h => by cases h
  | n + 1, v, h => by
    unfold plainB at h
    split at h
    · exact .bool _
    · exact .int _ _
    · exact .str _
    · exact .ptrNil
    · exact .nilIface
    · exact .agg fun v hv => plainB_sound n (List.all_eq_true.1 h v hv)
    · exact .tuple fun v hv => plainB_sound n (List.all_eq_true.1 h v hv)
    · cases h

/-- A function without arguments, by its answer. -/
noncomputable def closedSpec (v : SV) : List SV → SSt → Ev (SV × SSt) := fun args σ => match args with
  | [] => .ok (v, σ)
  | _ => .fail
end
end Go.Sh
namespace Go.Sh
open Go.RowKit
section
variable {C : Cx} {ρ : Ren} {σ : SSt} {w w' : World}
/-- Specs that are told apart by the function's number. -/
noncomputable def specs : List (FuncId × (List SV → SSt → Ev (SV × SSt))) → FuncId → Option (List SV → SSt → Ev (SV × SSt))
  | [], _ => none
  | (g, s) :: l, f => match Nat.beq f g with
    | true => some s
    | false => specs l f
theorem specs_sound {p : FuncId → (List SV → SSt → Ev (SV × SSt)) → Prop} : ∀ {l : List (FuncId × (List SV → SSt → Ev (SV × SSt)))}, (∀ x, x ∈ l → p x.1 x.2) → ∀ f g, specs l f = some g → p f g
  | [], _, _, _, h => by cases h
  | (g0, s) :: l, hp, f, g, h => by
    unfold specs at h
    split at h
    · rename_i he
      cases h
      obtain rfl := Nat.eq_of_beq_eq_true he
      exact hp (f, s) (by simp)
    · exact specs_sound (fun x hx => hp x (by simp [hx])) f g h
theorem closedSpec_stp (v : SV) (args : List SV) (σ : SSt) : (closedSpec v args σ).box fun r => Stp σ r.2 := by
  unfold closedSpec
  split
  · exact Stp.refl _
  · exact trivial
/-- A closed function, run once from nothing. -/
theorem closed_sound {P : Program} {E0 : Env} (hfn : ∀ B, FuncsOk ⟨P, E0, B⟩) (hsp : ∀ B, SpecOk ⟨P, E0, B⟩) (hss : SpecStp E0) (hbase : E0.base = noBase) {n : Nat} {f : FuncId} {v : SV} {hi : Nat}
    (hv : Plain v) (he : Al ((evN E0 n).2 f [] σ0) hi fun r => r.1 = v) {E : Env} {B : Nat} (args : List SV) (rargs : List Value) (σ : SSt) (ρ : Ren) (w : World) (hi' : Nat) (Q : SV × SSt → Prop) (h : Sim ⟨P, E, B⟩ ρ σ w)
    (hargs : VRs P B (World.shp w) ρ args rargs) (hq : Al (closedSpec v args σ) hi' Q) : Called ⟨P, E, B⟩ f rargs w (CallPost ⟨P, E, B⟩ ρ σ w Q) := by
  unfold closedSpec at hq
  split at hq
  · cases hargs
    have hc := calls_of_shadow (P := P) (E := E0) (w := w) (hfn _) (hsp _) hss (fun b o v hb => by rw [hbase] at hb; cases hb) (args := []) (rargs := []) .nil he
    have post : ∀ rv w', (∃ (v' : SV) (ρ' : Ren), v' = v ∧ VR P w.heap.size (World.shp w') ρ' v' rv ∧ Below w.heap.size w w') → CallPost ⟨P, E, B⟩ ρ σ w Q rv w' := by
      rintro rv w' ⟨v', ρ', rfl, h3, h4⟩
      exact ⟨v', σ, ρ, hq.2, Ok.below h h4, VR.plain h3 hv⟩
    rcases hc with ⟨h1, h2⟩ | ⟨s, rest, h1, _⟩
    · exact .inl ⟨h1, CallsIn.mono h2 fun e w' ⟨rv, h3, v', σ', ρ', h4, h5, h6⟩ => ⟨rv, h3, post rv w' ⟨v', ρ', h4, h5, h6⟩⟩⟩
    · cases h1
  · exact hq.elim
end
end Go.Sh
