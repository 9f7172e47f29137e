/-
  The shadow machine, part V: from the shadow's answer to a contract: a call that begins with nothing of the shadow's own.
-/
import Derived.Test.YthfijonopinghaaGreatDoorShU
import Derived.Below
set_option linter.unusedSimpArgs false
set_option linter.unusedVariables false
namespace Go.Sh
open Go.RowKit
noncomputable def σ0 : SSt := ⟨T.e, 0, 0, []⟩
noncomputable def noBase : Nat → Nat → Option SV := fun _ _ => none
/-- The answer, if there is but one way and it is an answer: is it so? -/
def Ev.chk {α : Type} (p : α → Bool) : Ev α → Bool
  | .ok a => p a
  | _ => false
theorem Ev.all_of_chk {α : Type} {p : α → Bool} {e : Ev α} (h : e.chk p = true) : e.all fun a => p a = true := by
  cases e with
  | ok a => exact h
  | fail => cases h
  | any n k => cases h
theorem calls_of_shadow {P : Program} {E : Env} {w : World} (hfn : FuncsOk ⟨P, E, w.heap.size⟩) (hsp : SpecOk ⟨P, E, w.heap.size⟩) (hss : SpecStp E) (hbase : ∀ b o v, E.base b o = some v → b < w.heap.size ∧ ∃ r, w.cell? ⟨b, o, none⟩ = some r ∧ VR P w.heap.size (World.shp w) (fun _ => none) v r)
    {n : Nat} {f : FuncId} {args : List SV} {rargs : List Value} (hargs : VRs P w.heap.size (World.shp w) (fun _ => none) args rargs) {hi : Nat} {Q : SV × SSt → Prop}
    (he : Al ((evN E n).2 f args σ0) hi Q) : Called ⟨P, E, w.heap.size⟩ f rargs w (fun rv w' => ∃ v σ' ρ', Q (v, σ') ∧ VR P w.heap.size (World.shp w') ρ' v rv ∧ Below w.heap.size w w') := by
  have hsim : Sim ⟨P, E, w.heap.size⟩ (fun _ => none) σ0 w := ⟨fun k o h => (by cases h), fun k k' o o' b f f' h => (by cases h), hbase, Nat.le_refl _⟩
  have hcall := (evN_sound (C := ⟨P, E, w.heap.size⟩) hfn hsp hss n).2 f args rargs σ0 (fun _ => none) w hi Q ⟨Nat.le_refl _, fun _ _ => rfl⟩ hsim hargs (fun _ _ _ => rfl) he
  have post : ∀ rv w', CallPost ⟨P, E, w.heap.size⟩ (fun _ => none) σ0 w Q rv w' → ∃ v σ' ρ', Q (v, σ') ∧ VR P w.heap.size (World.shp w') ρ' v rv ∧ Below w.heap.size w w' := by
    rintro rv w' ⟨v, σ', ρ', h1, h2, h3⟩
    exact ⟨v, σ', ρ', h1, h3, ⟨h2.fr.os, h2.fr.tape, h2.fr.output, h2.fr.size, fun k hk => h2.fr.same k hk fun k' o off h => by cases h⟩⟩
  rcases hcall with ⟨h1, h2⟩ | ⟨s, rest, h1, rv, w', h2, h3⟩
  · exact .inl ⟨h1, CallsIn.mono h2 fun e w' ⟨rv, h3, h4⟩ => ⟨rv, h3, post rv w' h4⟩⟩
  · exact .inr ⟨s, rest, h1, rv, w', h2, post rv w' h3⟩
/-- A law with a body that answers true. -/
theorem true_of_shadow {P : Program} {E : Env} {w : World} (hfn : FuncsOk ⟨P, E, w.heap.size⟩) (hsp : SpecOk ⟨P, E, w.heap.size⟩) (hss : SpecStp E) (hbase : ∀ b o v, E.base b o = some v → b < w.heap.size ∧ ∃ r, w.cell? ⟨b, o, none⟩ = some r ∧ VR P w.heap.size (World.shp w) (fun _ => none) v r)
    {n : Nat} {f : FuncId} {args : List SV} {rargs : List Value} (hargs : VRs P w.heap.size (World.shp w) (fun _ => none) args rargs) {hi : Nat} {fn : Func} (hf : P.funcs[f]? = some fn) (hb : fn.body.isSome = true) (hname : fn.name ≠ "runtime.NumGoroutine")
    (he : Al ((evN E n).2 f args σ0) hi fun r => r.1 = .bool true) : Calls P f rargs.toArray w fun e w' => e = .returned (.bool true) ∧ Below w.heap.size w w' := by
  have hsim : Sim ⟨P, E, w.heap.size⟩ (fun _ => none) σ0 w := ⟨fun k o h => (by cases h), fun k k' o o' b f f' h => (by cases h), hbase, Nat.le_refl _⟩
  have hcall := (evN_sound (C := ⟨P, E, w.heap.size⟩) hfn hsp hss n).2 f args rargs σ0 (fun _ => none) w hi _ ⟨Nat.le_refl _, fun _ _ => rfl⟩ hsim hargs (fun _ _ _ => rfl) he
  rcases hcall with ⟨h1, h2⟩ | ⟨s, rest, h1, rv, w', h2, h3⟩
  · refine callsIn_wide.1 (CallsIn.mono h2 fun e w' ⟨rv, h3, v, σ', ρ', h4, h5, h6⟩ => ?_)
    have h4 : v = .bool true := h4
    subst h4
    rw [vr_bool h6] at h3
    exact ⟨h3, h5.fr.os, h5.fr.tape, h5.fr.output, h5.fr.size, fun k hk => h5.fr.same k hk fun k' o off h => by cases h⟩
  · have : ∃ c, fn.body = some c := by cases hq : fn.body with
      | none => rw [hq] at hb; cases hb
      | some c => exact ⟨c, rfl⟩
    obtain ⟨c, hc⟩ := this
    have h4 : (callFunc f rargs.toArray).run P w = .ok (.enter f rargs.toArray) w := by simp [callFunc, Sem.run_bind, hf, hname, hc]
    rw [h4] at h2
    cases h2
end Go.Sh
