/-
  Closed functions, by what they are: each run once, from nothing.
-/
import Derived.Test.YtjddifdolkdamaaGreatDoorShOk
namespace Go.Proofs.YtjddifdolkdamaaGreatDoor.Sh
open Go Go.Sh Go.Proofs Go.RowKit
set_option maxRecDepth 100000
noncomputable section
def E0 : Env := ⟨noBase, sfuncs, fun _ => none⟩
def spl : List (FuncId × (List SV → SSt → Ev (SV × SSt))) := [(8, closedSpec (.bool true))]
def E1 : Env := ⟨noBase, sfuncs, specs spl⟩
end
theorem run8 : ansF E0 4000 8 [] = some (.bool true) := by kernel_rfl
theorem e0_spec (B : Nat) : SpecOk ⟨Tryz.prog, E0, B⟩ := fun _ _ h => by cases h
theorem e0_stp : SpecStp E0 := fun _ _ h => by cases h
theorem spec_of {v : SV} {f : FuncId} {n : Nat} (hv : Plain v) (hr : ansF E0 n f [] = some v) (E : Env) (B : Nat) (args : List SV) (rargs : List Value) (σ : SSt) (ρ : Ren) (w : World) (hi : Nat) (Q : SV × SSt → Prop)
    (h : Sim ⟨Tryz.prog, E, B⟩ ρ σ w) (hargs : VRs Tryz.prog B (World.shp w) ρ args rargs) (hq : Al (closedSpec v args σ) hi Q) : Called ⟨Tryz.prog, E, B⟩ f rargs w (CallPost ⟨Tryz.prog, E, B⟩ ρ σ w Q) :=
  (ansF_ok hr).elim fun _ hN => closed_sound (fun B => funcs_ok E0 B rfl) e0_spec e0_stp rfl hv (al_of_fst hN) args rargs σ ρ w hi Q h hargs hq
theorem spl_ok (E : Env) (B : Nat) : ∀ x ∈ spl, ∀ (args : List SV) (rargs : List Value) (σ : SSt) (ρ : Ren) (w : World) (hi : Nat) (Q : SV × SSt → Prop), Sim ⟨Tryz.prog, E, B⟩ ρ σ w → VRs Tryz.prog B (World.shp w) ρ args rargs → Al (x.2 args σ) hi Q → Called ⟨Tryz.prog, E, B⟩ x.1 rargs w (CallPost ⟨Tryz.prog, E, B⟩ ρ σ w Q) :=
  memCons (spec_of (plainB_sound 3 (by kernel_rfl)) run8 E B) <| memNil
theorem spl_stp : ∀ x ∈ spl, ∀ args σ, (x.2 args σ).box fun r => Stp σ r.2 := memCons (closedSpec_stp _) <| memNil
theorem e1_spec (B : Nat) : SpecOk ⟨Tryz.prog, E1, B⟩ := fun f g hf args rargs σ ρ w hi Q _ h hargs _ hq =>
  specs_sound (p := fun f g => ∀ (args : List SV) (rargs : List Value) (σ : SSt) (ρ : Ren) (w : World) (hi : Nat) (Q : SV × SSt → Prop), Sim ⟨Tryz.prog, E1, B⟩ ρ σ w → VRs Tryz.prog B (World.shp w) ρ args rargs → Al (g args σ) hi Q → Called ⟨Tryz.prog, E1, B⟩ f rargs w (CallPost ⟨Tryz.prog, E1, B⟩ ρ σ w Q)) (spl_ok E1 B) f g hf args rargs σ ρ w hi Q h hargs hq
theorem e1_stp : SpecStp E1 := fun f g hf => specs_sound (p := fun _ g => ∀ args σ, (g args σ).box fun r => Stp σ r.2) spl_stp f g hf
end Go.Proofs.YtjddifdolkdamaaGreatDoor.Sh
