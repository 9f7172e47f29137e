/-
  Of every input: TopicLimit returns true, and its arguments read as before. No condition of ours.
-/
import Derived.Test.YthfijonopinghaaGreatDoorShCrc
import Derived.Test.YthfijonopinghaaGreatDoorCards
import Derived.Test.YthfijonopinghaaGreatDoorTie
import Derived.WalkKit
import Derived.ProofKit
import Derived.OpenShut
import Derived.ShutString
import Derived.ChangeOld
import Derived.Below
import Derived.Deep.DeepHandedRow
import Derived.Deep.DeepWitnessRowRef
import Derived.LaidMore
import Derived.Lib.LaidTab
namespace Go.Proofs.YthfijonopinghaaGreatDoor.topicLimit
open Go.ChangeShapes Go.WideShapes Go.ChangeAt Go.RowKit
open Go.ChangeMaps (open_string shut_string)
open Go.Sh Go.Proofs.YthfijonopinghaaGreatDoor.Sh
set_option maxRecDepth 100000

theorem own : ownKnob Tryz.prog.godebug = none := by kernel_rfl
theorem laidOut : laidOutB Tryz.prog = true := by kernel_rfl

/-- What the walk is told of a slice of integers that came in: it is nil; or it leads to a row of 'cap' cells, the numbers 'zs'. -/
def IsRow (k : IntKind) (w : World) (a : Option Addr) (len cap : Nat) (zs : List Int) : Prop :=
  (a = none ∧ len = 0 ∧ cap = 0 ∧ zs = []) ∨
  ∃ x, a = some x ∧ len ≤ cap ∧ cap ≤ maxLen ∧ zs.length = cap ∧ (∀ i, i < zs.length → w.cell? (x.add i) = some (.int k (zs.getD i 0))) ∧ ∀ n ∈ zs, (Lit.int k n).wf = true
theorem IsRow.vr {P : Program} {B : Nat} {ρ : Ren} {k : IntKind} {w : World} {a : Option Addr} {len cap : Nat} {zs : List Int} (h : IsRow k w a len cap zs) : ∃ v, VR P B (World.shp w) ρ v (.slice a len cap) := by
  rcases h with ⟨rfl, rfl, rfl, rfl⟩ | ⟨x, rfl, h1, h2, h3, h4, h5⟩
  · exact ⟨_, .sliceNil⟩
  · rcases Nat.eq_zero_or_pos cap with hc | hc
    · subst hc
      obtain rfl : len = 0 := by omega
      exact ⟨_, .sliceZ0 ⟨true, 0, 0⟩ x⟩
    · have h6 := h4 0 (by omega)
      have h7 : (x.add 0).spot = none := World.cell?_spot h6
      exact ⟨_, .slice (a := ⟨true, x.block, x.off⟩) len cap ⟨h7, rfl, rfl⟩⟩

/-! ### The walk -/
theorem runT : ansF E1 4000 4 [.bool true] = some (.bool true) := by kernel_rfl
theorem runF : ansF E1 4000 4 [.bool false] = some (.bool true) := by kernel_rfl
theorem runs : ∀ a : Bool, ansF E1 4000 4 [.bool a] = some (.bool true)
  | true => runT
  | false => runF
theorem walk (a0 : Bool) (w : World) (_ : laidMetH Tryz.prog Rows.topicLimitRow.laid w) :
    Calls Tryz.prog 4 #[.bool a0] w fun e w' => e = .returned (.bool true) ∧ Below w.heap.size w w' :=
  (ansF_ok (runs a0)).elim fun _ hN => true_of_shadow (E := E1) (funcs_ok E1 _ rfl) (e1_spec _) e1_stp (fun b o v hb => by cases hb) (args := [.bool a0]) (rargs := [.bool a0]) (.cons (.bool _) .nil) Tryz.func4 rfl (by decide) (al_of_fst hN)

/-- What the walk gives, for every argument: the same for both forms. -/
theorem contract (H : Type) (enc : TypeId × Value → H) (W : World) (base : Nat) (args : Array Value) (ds gs : List (DataW H)) (before : List MemPlace)
    (hval0 : ∀ (j : Nat) t v, Tryz.f4.params[j]? = some t → args[j]? = some v → Value.okWide Tryz.prog W .any base t v)
    (hW : DataW.Whole enc Tryz.prog Tryz.f4.params.toList Rows.topicLimitSpec.vars false W args.toList ds gs before) (hL : laidMetH Tryz.prog Rows.topicLimitRow.laid W) :
    Calls Tryz.prog 4 args W fun e W' => ∃ v, e = .returned v ∧ Rows.topicLimitSpec.post enc Tryz.prog Tryz.f4 false true false false W args v W' := by
  have hval : ∀ (j : Nat) t v, Tryz.f4.params[j]? = some t → args[j]? = some v → Value.okWide Tryz.prog W .any base t v := hval0
  have hW' := hW
  obtain ⟨p, q, hA0, hV, rfl, hfz, hnd⟩ := hW
  have hA : DataW.TrodAll enc Tryz.prog W 0 (fun _ => true) true Tryz.f4.params.toList args.toList ds p := hA0
  rw [Tryz.params4] at hA hval
  obtain ⟨v0, vs0, d0, ds0, p0, q0, hargs, rfl, rfl, h0, r0⟩ := trodAll_cons hA
  obtain ⟨rfl, rfl, rfl⟩ := trodAll_nil r0
  obtain rfl : args = #[v0] := by cases args; simp_all
  obtain ⟨rfl, rfl⟩ := trodVars_none hV
  obtain ⟨a0, rfl, rfl, rfl⟩ := open_bool Tryz.underlying4 (hval 0 4 v0 rfl rfl) h0
  clear hA0 hval0
  refine (walk a0 W  hL).mono fun e W' ⟨he, bel⟩ => ?_
  subst he
  exact ⟨_, rfl, _, _, _, [], _, [], hW', trodAll_mk1 (shut_bool Tryz.underlying4 _), (trodAll_cons_mk (shut_bool Tryz.underlying4 _) trodAll_mk0), rfl, bel.frame _, fun h => by cases h⟩

/-! ### A world for the witness: the settled one, the tables laid -/
noncomputable def litCells : Nat → DataW Unit → List Value
  | 0, _ => []
  | n + 1, d => match d with
    | .lit (.int k i) => [.int k i]
    | .agg ds => ds.flatMap (litCells n)
    | _ => []
noncomputable def laidWorld (os : Os) : World :=
  { World.holding Tryz.prog os ⟨#[], #[], []⟩ with heap := ((World.holding Tryz.prog os ⟨#[], #[], []⟩).heap.modify ((Tryz.prog.globalNamed "unicode/utf8.acceptRanges").getD 0) fun | .cells _ t frozen => .cells (litCells 6 Rows.laid_unicode_utf8_acceptRanges).toArray t frozen | o => o).modify ((Tryz.prog.globalNamed "unicode/utf8.first").getD 0) fun | .cells _ t frozen => .cells (litCells 6 Rows.laid_unicode_utf8_first).toArray t frozen | o => o }
theorem laid_met (os : Os) : laidMet Tryz.prog Rows.topicLimitRow.laid ((laidWorld os).forCall (fun _ _ => 0) ⟨#[], #[.bool false], []⟩).memory := laidMet_of_run' 8 (by kernel_rfl) (by kernel_rfl)
theorem reads (os : Os) {H : Type} (enc : TypeId × Value → H) : ∃ places, DataW.whole enc Tryz.prog ((laidWorld os).forCall (fun _ _ => 0) ⟨#[], #[.bool false], []⟩).memory Tryz.f4.params.toList Rows.topicLimitSpec.vars false (#[.bool false] : Array Value).toList 8 = some ([.lit (.bool false)], [], places) :=
  ⟨[], by kernel_rfl⟩

theorem lifted (os : Os) (started : os.Started) (H : Type) (enc : TypeId × Value → H) (F : Stop.Interp) :
    ReturnsInHanded {} Tryz.checked os 4 .any ((OpenSpec.ofChange Rows.topicLimitSpec).preRow enc Tryz.prog Tryz.f4 Rows.topicLimitRow.domain false Rows.topicLimitRow.laid) (((OpenSpec.ofChange Rows.topicLimitSpec).at F).post enc Tryz.prog Tryz.f4 false true false false) := by
  obtain ⟨places, hx⟩ := reads os enc
  refine returnsInHanded_of_row (C := Tryz.checked) (s := OpenSpec.ofChange Rows.topicLimitSpec) own started (by kernel_rfl) Tryz.func4
    (witness_row_at (enc := enc) (C := Tryz.checked) false (laidWorld os) #[.bool false] rfl (by kernel_rfl) (by kernel_rfl) (by kernel_rfl)
      (OpenSpec.preRow_of_cond 8 hx (by kernel_rfl) (fun k hk => by cases hk) (by kernel_rfl) (laid_met os))) ?_
  intro W base args ds gs before hval hW _ _ _ hL _ _
  exact contract H enc W base args ds gs before hval hW hL

theorem said : Rows.TopicLimitSaid :=
  OpenClaim.holds_of_cond 4 Tryz.f4 rfl rfl rfl rfl rfl rfl rfl ⟨rfl, rfl, rfl, rfl, rfl⟩ rfl rfl rfl rfl rfl (by kernel_rfl) Tryz.func4 (by kernel_rfl)
    (of_decide_eq_true (by kernel_rfl)) (by unfold Func.isWrapper; first | (rw [if_pos (by decide +kernel)]; kernel_rfl) | (rw [if_neg (by decide +kernel)]; exact ⟨rfl, rfl⟩))
    (fun os started H enc _ F => by rw [OpenClaim.pre_eq_preRow]; exact lifted os started H enc F)

/-- No parameter wants a stand-in; the program's own looks are off. -/
theorem plain (f : FuncId) (fn : Func) (hf : Tryz.pinned.checked.prog.funcNamed "courant/courantlaw25.TopicLimit" = some f) (hfn : Tryz.pinned.checked.prog.funcs[f]? = some fn) :
    false = Tryz.pinned.checked.prog.looks [] ∧ ∀ (j : Nat) t, fn.params[j]? = some t → Tryz.pinned.checked.prog.wantsStandIn t = false := by
  obtain rfl : f = 4 := Option.some.inj ((show Tryz.prog.funcNamed "courant/courantlaw25.TopicLimit" = some 4 by kernel_rfl).symm.trans hf) |>.symm
  obtain rfl : fn = Tryz.f4 := (Option.some.inj (Tryz.func4.symm.trans hfn)).symm
  refine ⟨by kernel_rfl, fun j t ht => ?_⟩
  rw [Tryz.params4] at ht
  have hm : t ∈ [4] := by simpa using Array.mem_of_getElem? ht
  have hall : ([4].all fun u => !Tryz.prog.wantsStandIn u) = true := by kernel_rfl
  exact (show Tryz.prog.wantsStandIn t = false by simpa using List.all_eq_true.1 hall t hm)
/-- ████ THE CARD ████ -/
theorem proved : Rows.TopicLimitCardSaid :=
  Claim7.holds_tied_plain_at .later [] _ _ _ _ said (fun _ h => by cases h) (by kernel_rfl) (fun _ h => by cases h) topicLimit_row_tie rfl ⟨rfl, rfl⟩ (by kernel_rfl) rfl plain (by kernel_rfl)

end Go.Proofs.YthfijonopinghaaGreatDoor.topicLimit
