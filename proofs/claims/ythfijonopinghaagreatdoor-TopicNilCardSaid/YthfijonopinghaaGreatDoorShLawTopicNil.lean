/-
  Of every name, message and numbers: TopicNil returns true (nil files, a nil partition), and its arguments read as before. No condition of ours. By the shadow machine: one run of it, by the kernel, the arguments unknown.
-/
import Derived.Test.YthfijonopinghaaGreatDoorShCrc
import Derived.Test.YthfijonopinghaaGreatDoorCards
import Derived.Test.YthfijonopinghaaGreatDoorTie
import Derived.WalkKit
import Derived.ProofKit
import Derived.OpenShut
import Derived.ShutString
import Derived.ChangeOld
import Derived.Below
import Derived.Deep.DeepHandedRow
import Derived.Lib.LaidTab
namespace Go.Proofs.YthfijonopinghaaGreatDoor.topicNil
open Go.ChangeShapes Go.WideShapes Go.ChangeAt Go.RowKit
open Go.ChangeMaps (open_string shut_string)
open Go.Sh Go.Proofs.YthfijonopinghaaGreatDoor.Sh
set_option maxRecDepth 100000

theorem own : ownKnob Tryz.prog.godebug = none := by kernel_rfl
theorem laidOut : laidOutB Tryz.prog = true := by kernel_rfl

/-- What the walk is told of a slice of integers that came in: it is nil; or it leads to a row of 'cap' cells, the numbers 'zs'. -/
def IsRow (k : IntKind) (w : World) (a : Option Addr) (len cap : Nat) (zs : List Int) : Prop :=
  (a = none ∧ len = 0 ∧ cap = 0 ∧ zs = []) ∨
  ∃ x, a = some x ∧ len ≤ cap ∧ cap ≤ maxLen ∧ zs.length = cap ∧ (∀ i, i < zs.length → w.cell? (x.add i) = some (.int k (zs.getD i 0))) ∧ ∀ n ∈ zs, (Lit.int k n).wf = true
theorem IsRow.vr {P : Program} {B : Nat} {ρ : Ren} {k : IntKind} {w : World} {a : Option Addr} {len cap : Nat} {zs : List Int} (h : IsRow k w a len cap zs) : ∃ v, VR P B (World.shp w) ρ v (.slice a len cap) := by
  rcases h with ⟨rfl, rfl, rfl, rfl⟩ | ⟨x, rfl, h1, h2, h3, h4, h5⟩
  · exact ⟨_, .sliceNil⟩
  · rcases Nat.eq_zero_or_pos cap with hc | hc
    · subst hc
      obtain rfl : len = 0 := by omega
      exact ⟨_, .sliceZ0 ⟨true, 0, 0⟩ x⟩
    · have h6 := h4 0 (by omega)
      have h7 : (x.add 0).spot = none := World.cell?_spot h6
      exact ⟨_, .slice (a := ⟨true, x.block, x.off⟩) len cap ⟨h7, rfl, rfl⟩⟩

/-! ### The walk -/
theorem run (s : Str) (n1 n2 n3 n4 : Int) (a : Option SA) (len : Nat) (cap : SCap) (n o : Int) : fstOf ((evN E1 1000).2 6 [.str s, .agg [.int .u64 n1, .int .u64 n2, .int .u64 n3, .int .i64 n4, .slice a len cap], .int .u64 o, .int .i64 n] σ0) = some (.bool true) := by kernel_rfl
theorem walk {H : Type} (a0 : ByteArray) (c1 : Array Value) (l1 : List SV) (d1 : DataW H) (a2 a3 : Int) (w : World) (_ : a0.size ≤ maxLen) (e1 : shV (.agg c1) = some (.agg l1)) (lv1 : CellTs [.int .u64, .int .u64, .int .u64, .int .i64, .slice 5] l1) {enc : TypeId × Value → H} {p1 : List MemPlace} (_ : DataW.Trod enc Tryz.prog w 0 (fun _ => true) true 48 (.agg c1) d1 p1) (_ : (Lit.int .u64 a2).wf = true) (_ : (Lit.int .i64 a3).wf = true) (_ : laidMetH Tryz.prog Rows.topicNilRow.laid w) :
    Calls Tryz.prog 6 #[.string a0, .agg c1, .int .u64 a2, .int .i64 a3] w fun e w' => e = .returned (.bool true) ∧ Below w.heap.size w w' := by
  cases lv1 with | cons x1 r1 => cases r1 with | cons x2 r2 => cases r2 with | cons x3 r3 => cases r3 with | cons x4 r4 => cases r4 with | cons x5 r5 =>
  cases x1; cases x2; cases x3; cases x4; cases x5; cases r5
  exact true_of_shadow (E := E1) (funcs_ok E1 _ rfl) (e1_spec _) e1_stp (fun b o v hb => by cases hb) (args := [.str (Str.of a0), .agg [.int .u64 _, .int .u64 _, .int .u64 _, .int .i64 _, .slice _ _ _], .int .u64 a2, .int .i64 a3]) (rargs := [.string a0, .agg c1, .int .u64 a2, .int .i64 a3])
    (.cons (.str a0) (.cons (shV_sound e1) (.cons (.int _ _) (.cons (.int _ _) .nil)))) Tryz.func6 rfl (by decide) (al_of_fst (run _ _ _ _ _ _ _ _ _ _))

/-- What the walk gives, for every argument: the same for both forms. -/
theorem contract (H : Type) (enc : TypeId × Value → H) (W : World) (base : Nat) (args : Array Value) (ds gs : List (DataW H)) (before : List MemPlace)
    (hval0 : ∀ (j : Nat) t v, Tryz.f6.params[j]? = some t → args[j]? = some v → Value.okWide Tryz.prog W .any base t v)
    (hW : DataW.Whole enc Tryz.prog Tryz.f6.params.toList Rows.topicNilSpec.vars false W args.toList ds gs before) (hL : laidMetH Tryz.prog Rows.topicNilRow.laid W) :
    Calls Tryz.prog 6 args W fun e W' => ∃ v, e = .returned v ∧ Rows.topicNilSpec.post enc Tryz.prog Tryz.f6 false true false false W args v W' := by
  have hval : ∀ (j : Nat) t v, Tryz.f6.params[j]? = some t → args[j]? = some v → Value.okWide Tryz.prog W .any base t v := hval0
  have hW' := hW
  obtain ⟨p, q, hA0, hV, rfl, hfz, hnd⟩ := hW
  have hA : DataW.TrodAll enc Tryz.prog W 0 (fun _ => true) true Tryz.f6.params.toList args.toList ds p := hA0
  rw [Tryz.params6] at hA hval
  obtain ⟨v0, vs0, d0, ds0, p0, q0, hargs, rfl, rfl, h0, r0⟩ := trodAll_cons hA
  obtain ⟨v1, vs1, d1, ds1, p1, q1, rfl, rfl, rfl, h1, r1⟩ := trodAll_cons r0
  obtain ⟨v2, vs2, d2, ds2, p2, q2, rfl, rfl, rfl, h2, r2⟩ := trodAll_cons r1
  obtain ⟨v3, vs3, d3, ds3, p3, q3, rfl, rfl, rfl, h3, r3⟩ := trodAll_cons r2
  obtain ⟨rfl, rfl, rfl⟩ := trodAll_nil r3
  obtain rfl : args = #[v0, v1, v2, v3] := by cases args; simp_all
  obtain ⟨rfl, rfl⟩ := trodVars_none hV
  obtain ⟨a0, rfl, rfl, rfl, w0⟩ := open_string Tryz.underlying9 (hval 0 9 v0 rfl rfl) h0
  obtain ⟨c1, rfl, _⟩ := okWide_struct Tryz.underlying48 (hval 1 48 v1 rfl rfl)
  have k1 := h1
  have lt1 : ∀ x ∈ p1, x.block < W.heap.size := by obtain ⟨m, hm⟩ := k1; exact DataW.trod_lt m _ _ _ hm
  obtain ⟨l1, e1, lv1⟩ := trod_agg (n := 6) h1 (lt := [.int .u64, .int .u64, .int .u64, .int .i64, .slice 5]) (by kernel_rfl)
  obtain ⟨a2, rfl, rfl, rfl, w2⟩ := open_int Tryz.underlying27 (hval 2 27 v2 rfl rfl) h2
  obtain ⟨a3, rfl, rfl, rfl, w3⟩ := open_int Tryz.underlying3 (hval 3 3 v3 rfl rfl) h3
  clear hA0 hval0
  refine (walk a0 c1 l1 d1 a2 a3 W w0 e1 lv1 h1 w2 w3 hL).mono fun e W' ⟨he, bel⟩ => ?_
  subst he
  exact ⟨_, rfl, _, _, _, [], _, [], hW', trodAll_mk1 (shut_bool Tryz.underlying4 _), (trodAll_cons_mk (shut_string Tryz.underlying9 w0) (trodAll_cons_mk (Below.trod laidOut (by kernel_rfl) (of_decide_eq_true (by kernel_rfl)) k1 bel lt1) (trodAll_cons_mk (shut_int Tryz.underlying27 w2) (trodAll_cons_mk (shut_int Tryz.underlying3 w3) trodAll_mk0)))), rfl, bel.frame _, fun h => by cases h⟩

/-! ### A world for the witness: the settled one, the tables laid -/
noncomputable def litCells : Nat → DataW Unit → List Value
  | 0, _ => []
  | n + 1, d => match d with
    | .lit (.int k i) => [.int k i]
    | .agg ds => ds.flatMap (litCells n)
    | _ => []
noncomputable def laidWorld (os : Os) : World :=
  { World.holding Tryz.prog os ⟨#[], #[], []⟩ with heap := ((World.holding Tryz.prog os ⟨#[], #[], []⟩).heap.modify ((Tryz.prog.globalNamed "unicode/utf8.acceptRanges").getD 0) fun | .cells _ t frozen => .cells (litCells 6 Rows.laid_unicode_utf8_acceptRanges).toArray t frozen | o => o).modify ((Tryz.prog.globalNamed "unicode/utf8.first").getD 0) fun | .cells _ t frozen => .cells (litCells 6 Rows.laid_unicode_utf8_first).toArray t frozen | o => o }
theorem laid_met (os : Os) : laidMet Tryz.prog Rows.topicNilRow.laid ((laidWorld os).forCall (fun _ _ => 0) ⟨#[], #[.string ByteArray.empty, .agg #[.int .u64 0, .int .u64 0, .int .u64 0, .int .i64 0, .slice none 0 0], .int .u64 0, .int .i64 0], []⟩).memory := laidMet_of_run' 8 (by kernel_rfl) (by kernel_rfl)
theorem reads (os : Os) {H : Type} (enc : TypeId × Value → H) : ∃ places, DataW.whole enc Tryz.prog ((laidWorld os).forCall (fun _ _ => 0) ⟨#[], #[.string ByteArray.empty, .agg #[.int .u64 0, .int .u64 0, .int .u64 0, .int .i64 0, .slice none 0 0], .int .u64 0, .int .i64 0], []⟩).memory Tryz.f6.params.toList Rows.topicNilSpec.vars false (#[.string ByteArray.empty, .agg #[.int .u64 0, .int .u64 0, .int .u64 0, .int .i64 0, .slice none 0 0], .int .u64 0, .int .i64 0] : Array Value).toList 8 = some ([.lit (.string []), .agg [.lit (.int .u64 0), .lit (.int .u64 0), .lit (.int .u64 0), .lit (.int .i64 0), .nil], .lit (.int .u64 0), .lit (.int .i64 0)], [], places) :=
  ⟨[], by kernel_rfl⟩

theorem lifted (os : Os) (started : os.Started) (H : Type) (enc : TypeId × Value → H) (F : Stop.Interp) :
    ReturnsInHanded {} Tryz.checked os 6 .any ((OpenSpec.ofChange Rows.topicNilSpec).preRow enc Tryz.prog Tryz.f6 Rows.topicNilRow.domain false Rows.topicNilRow.laid) (((OpenSpec.ofChange Rows.topicNilSpec).at F).post enc Tryz.prog Tryz.f6 false true false false) := by
  obtain ⟨places, hx⟩ := reads os enc
  refine returnsInHanded_of_row (C := Tryz.checked) (s := OpenSpec.ofChange Rows.topicNilSpec) own started (by kernel_rfl) Tryz.func6
    (witness_row_at (enc := enc) (C := Tryz.checked) false (laidWorld os) #[.string ByteArray.empty, .agg #[.int .u64 0, .int .u64 0, .int .u64 0, .int .i64 0, .slice none 0 0], .int .u64 0, .int .i64 0] rfl (by kernel_rfl) (by kernel_rfl) (by kernel_rfl)
      (OpenSpec.preRow_of_cond 8 hx (by kernel_rfl) (fun k hk => by cases hk) (by kernel_rfl) (laid_met os))) ?_
  intro W base args ds gs before hval hW _ _ _ hL _ _
  exact contract H enc W base args ds gs before hval hW hL

theorem said : Rows.TopicNilSaid :=
  OpenClaim.holds_of_cond 6 Tryz.f6 rfl rfl rfl rfl rfl rfl rfl ⟨rfl, rfl, rfl, rfl, rfl⟩ rfl rfl rfl rfl rfl (by kernel_rfl) Tryz.func6 (by kernel_rfl)
    (of_decide_eq_true (by kernel_rfl)) (by unfold Func.isWrapper; first | (rw [if_pos (by decide +kernel)]; kernel_rfl) | (rw [if_neg (by decide +kernel)]; exact ⟨rfl, rfl⟩))
    (fun os started H enc _ F => by rw [OpenClaim.pre_eq_preRow]; exact lifted os started H enc F)

/-- No parameter wants a stand-in; the program's own looks are off. -/
theorem plain (f : FuncId) (fn : Func) (hf : Tryz.pinned.checked.prog.funcNamed "courant/courantlaw25.TopicNil" = some f) (hfn : Tryz.pinned.checked.prog.funcs[f]? = some fn) :
    false = Tryz.pinned.checked.prog.looks [] ∧ ∀ (j : Nat) t, fn.params[j]? = some t → Tryz.pinned.checked.prog.wantsStandIn t = false := by
  obtain rfl : f = 6 := Option.some.inj ((show Tryz.prog.funcNamed "courant/courantlaw25.TopicNil" = some 6 by kernel_rfl).symm.trans hf) |>.symm
  obtain rfl : fn = Tryz.f6 := (Option.some.inj (Tryz.func6.symm.trans hfn)).symm
  refine ⟨by kernel_rfl, fun j t ht => ?_⟩
  rw [Tryz.params6] at ht
  have hm : t ∈ [9, 48, 27, 3] := by simpa using Array.mem_of_getElem? ht
  have hall : ([9, 48, 27, 3].all fun u => !Tryz.prog.wantsStandIn u) = true := by kernel_rfl
  exact (show Tryz.prog.wantsStandIn t = false by simpa using List.all_eq_true.1 hall t hm)
/-- ████ THE CARD ████ -/
theorem proved : Rows.TopicNilCardSaid :=
  Claim7.holds_tied_plain_at .later [] _ _ _ _ said (fun _ h => by cases h) (by kernel_rfl) (fun _ h => by cases h) topicNil_row_tie rfl ⟨rfl, rfl⟩ (by kernel_rfl) rfl plain (by kernel_rfl)

end Go.Proofs.YthfijonopinghaaGreatDoor.topicNil
