/-
  The shadow machine, part Wb: operations one by one, over states that grow; ranges over functions.
-/
import Derived.Test.YthfijonopinghaaGreatDoorShWa
import Derived.WalkKit
set_option linter.unusedSimpArgs false
set_option linter.unusedVariables false
namespace Go.Sh
attribute [go_sem] evLocal lMov lPick lBin lBinNil lBinB lUn lConvInt lStrId lFieldAddr lExtract lLen lLenS lNilCheck lMkFunc binS bIntY bInt intOp iAdd iSub iMul iEql iNeq iLss iLeq iGtr iGeq iQuo iRem iXor nilEq nilPtr nilSl nilMap nilFn unS SV.cells SA.add
section
variable {E : Env}
@[go_sem] theorem evX_set (tm : T SV) (d : Nat) (v : SV) (t : Nat) : evX (tm.set d (some v)) (.tmp t) = if t = d then v else evX tm (.tmp t) := getT_set tm d v t
@[go_sem] theorem evX_const (tm : T SV) (v : SV) : evX tm (.const v) = v := rfl
@[go_sem] theorem evX_func (tm : T SV) (f : FuncId) : evX tm (.func f) = .func f [] := rfl
@[go_sem] theorem evX_glob (tm : T SV) (g : Nat) : evX tm (.glob g) = .ptr (some ⟨true, g, 0⟩) := rfl
@[go_sem] theorem putList_nil (t : T SV) (k : Nat) : t.putList k [] = t := rfl
@[go_sem] theorem putList_cons (t : T SV) (k : Nat) (v : SV) (vs : List SV) : t.putList k (v :: vs) = (t.set k (some v)).putList (k + 1) vs := rfl
@[go_sem] theorem sameK_self (k : IntKind) : sameK k k = true := Nat.beq_refl _
section
variable {σ0 σ : SSt} {L : List (Nat × Ow)} {Q : SAct → SSt → Prop} {os : List SOper} {tm : T SV} {ds : List Nat} {ro : Option Nat}
theorem WO.done (h : Q ⟨tm, ds, ro⟩ σ) : WO E [] ⟨tm, ds, ro⟩ σ Q := WO.nil h
theorem WO.loc {d : Nat} {l : LOp} {v : SV} (hv : evLocal l tm = some v) (h : WO E os ⟨tm.set d (some v), ds, ro⟩ σ Q) : WO E (⟨some d, .loc l, none⟩ :: os) ⟨tm, ds, ro⟩ σ Q := WO.on rfl (WP.loc hv h)
theorem WO.box {d : Nat} {e : TypeId} {x : SX} {v : SV} (S : St σ0 σ L) (hx : evX tm x = v) (h1 : v.cells.all SV.one = true) (h : ∀ σ1, St σ0 σ1 ((σ.next, .cs v.cells) :: L) → Ext σ σ1 → WO E os ⟨tm.set d (some (.ptr (some ⟨false, σ.next, 0⟩))), ds, ro⟩ σ1 Q) :
    WO E (⟨some d, .mem (.box e x), none⟩ :: os) ⟨tm, ds, ro⟩ σ Q := by
  refine WO.on rfl (WP.mem (v := .ptr (some ⟨false, σ.next, 0⟩)) (σ1 := σ.newCells e v.cells) ?_ (h _ (S.new e v.cells) (St.new (St.init S.wf) e v.cells).ext))
  simp only [evMem, mBox, hx, h1]
theorem WO.alloc {d : Nat} {e : TypeId} {cs : List SV} (S : St σ0 σ L) (h : ∀ σ1, St σ0 σ1 ((σ.next, .cs cs) :: L) → Ext σ σ1 → WO E os ⟨tm.set d (some (.ptr (some ⟨false, σ.next, 0⟩))), ds, ro⟩ σ1 Q) :
    WO E (⟨some d, .mem (.alloc e cs), none⟩ :: os) ⟨tm, ds, ro⟩ σ Q :=
  WO.on rfl (WP.mem (v := .ptr (some ⟨false, σ.next, 0⟩)) (σ1 := σ.newCells e cs) rfl (h _ (S.new e cs) (St.new (St.init S.wf) e cs).ext))
theorem WO.load {d : Nat} {agg : Option Nat} {x : SX} {a : SA} {v : SV} (hx : evX tm x = .ptr (some a)) (hv : rdVar E σ agg a = some v) (h : WO E os ⟨tm.set d (some v), ds, ro⟩ σ Q) : WO E (⟨some d, .mem (.load agg x), none⟩ :: os) ⟨tm, ds, ro⟩ σ Q :=
  WO.on rfl (WP.mem (v := v) (σ1 := σ) (by simp only [evMem, mLoad, hx, hv]) h)
theorem WO.store {size : Nat} {x y : SX} {k o : Nat} {v : SV} {cs : List SV} {L1 L2 : List (Nat × Ow)} (S : St σ0 σ (L1 ++ (k, .cs cs) :: L2)) (hx : evX tm x = .ptr (some ⟨false, k, o⟩)) (hy : evX tm y = v) (hs : v.cells.length = size) (ho : o + size ≤ cs.length) (h1 : v.cells.all SV.one = true)
    (h : ∀ σ1, σ1.next = σ.next → St σ0 σ1 (L1 ++ (k, .cs (cs.take o ++ v.cells ++ cs.drop (o + size))) :: L2) → WO E os ⟨tm, ds, ro⟩ σ1 Q) : WO E (⟨none, .mem (.store size x y), none⟩ :: os) ⟨tm, ds, ro⟩ σ Q := by
  subst hs
  obtain ⟨ob, h2, _, h3⟩ := S.store rfl ho h1
  exact WO.on rfl (WP.mem (v := undefS) (σ1 := σ.put k (some ob)) (by simp only [evMem, mStore, hx, hy, Nat.beq_refl, h2]) (h _ rfl h3))
theorem WO.call {d : Nat} {f : FuncId} {args : List SX} {as : List SV} (ha : args.map (evX tm) = as) (h : WK E f as σ fun v σ1 => WO E os ⟨tm.set d (some v), ds, ro⟩ σ1 Q) : WO E (⟨some d, .call (.func f) args, none⟩ :: os) ⟨tm, ds, ro⟩ σ Q :=
  WO.on rfl (WP.call (g := f) (cs := []) rfl (by rw [ha, List.append_nil]; exact h))
theorem rdVar1 {a : SA} {v : SV} (h : rd E σ a 0 = some v) : rdVar E σ none a = some v := h
theorem rdVarL {a : SA} {n : Nat} {cs : List SV} (h : rdL E σ a 0 n = some cs) : rdVar E σ (some n) a = some (.agg cs) := by simp only [rdVar, h, Option.map_some]

/-! ### Regions without order -/
variable {od : List (SOper × Nat)} {i loud bm : Nat} {rs : List Rc} {lk : List (Nat × Nat)}
theorem WD.done (h : Q ⟨tm, ds, ro⟩ σ) : WD E [] i loud rs lk ⟨tm, ds, ro⟩ σ Q := Fin.pure (fun _ => rfl) h
theorem WD.loc {d : Nat} {l : LOp} {v : SV} (hv : evLocal l tm = some v) (h : WD E od (i + 1) loud rs lk ⟨tm.set d (some v), ds, ro⟩ σ Q) : WD E ((⟨some d, .loc l, none⟩, bm) :: od) i loud rs lk ⟨tm, ds, ro⟩ σ Q := by
  refine Fin.congr (g := fun n => evDraw E (evN E n).1 (evN E n).2 od (i + 1) loud rs lk ⟨tm.set d (some v), ds, ro⟩ σ) (fun n => ?_) h
  simp only [evDraw, wantedS, SOp.loud, evOp, oLoc, hv]
  rfl
theorem WD.look {d : Nat} {agg : Option Nat} {x : SX} {v : SV} {b : Option Nat} (hv : evLook E rs bm σ agg (evX tm x) = some (v, b)) (h : WD E od (i + 1) loud rs (addLook i b lk) ⟨tm.set d (some v), ds, ro⟩ σ Q) : WD E ((⟨some d, .mem (.load agg x), none⟩, bm) :: od) i loud rs lk ⟨tm, ds, ro⟩ σ Q := by
  refine Fin.congr (g := fun n => evDraw E (evN E n).1 (evN E n).2 od (i + 1) loud rs (addLook i b lk) ⟨tm.set d (some v), ds, ro⟩ σ) (fun n => ?_) h
  simp only [evDraw, wantedS, SOp.loud, SOp.ld, hv]
  rfl
/-- A load where nothing was turned yet. -/
theorem look_new {a : SA} {agg : Option Nat} {v : SV} (hb : a.base = false) (hv : rdVar E σ agg a = some v) : evLook E [] bm σ agg (.ptr (some a)) = some (v, some a.blk) := by
  simp only [evLook, hb, List.any_nil, hv]
theorem look_base {a : SA} {agg : Option Nat} {v : SV} (hb : a.base = true) (hv : rdVar E σ agg a = some v) : evLook E rs bm σ agg (.ptr (some a)) = some (v, none) := by
  simp only [evLook, hb, hv]
theorem WD.store {size : Nat} {x y : SX} {k o : Nat} {v : SV} {cs : List SV} {L1 L2 : List (Nat × Ow)} (S : St σ0 σ (L1 ++ (k, .cs cs) :: L2)) (hx : evX tm x = .ptr (some ⟨false, k, o⟩)) (hy : evX tm y = v) (hs : v.cells.length = size) (ho : o + size ≤ cs.length) (h1 : v.cells.all SV.one = true)
    (hh : (rs.filter fun r => !bm.testBit r.i) = []) (hl : Nat.beq (loud &&& bm) loud = true) (hk : ∀ p, p ∈ lk → bm.testBit p.1 = true ∨ p.2 ≠ k)
    (h : ∀ σ1, σ1.next = σ.next → St σ0 σ1 (L1 ++ (k, .cs (cs.take o ++ v.cells ++ cs.drop (o + size))) :: L2) → WD E od (i + 1) loud (⟨i, σ.next, σ.next, [k]⟩ :: rs) ((i, k) :: lk) ⟨tm, ds, ro⟩ σ1 Q) :
    WD E ((⟨none, .mem (.store size x y), none⟩, bm) :: od) i loud rs lk ⟨tm, ds, ro⟩ σ Q := by
  subst hs
  obtain ⟨ob, h2, hk0, h3⟩ := S.store rfl ho h1
  have hkn : k < σ.next := (S.own (k, .cs cs) (by simp)).2.1
  have hkm : Nat.blt k σ.mark = false := bltF (by rw [S.ext.mark]; have := S.wf0.1; omega)
  have hwv : wr { heap := σ.heap, next := σ.next, mark := σ.next, mods := [] } ⟨false, k, o⟩ v.cells = some (SSt.put { heap := σ.heap, next := σ.next, mark := σ.next, mods := [] } k (some ob)) := by
    unfold wr at h2 ⊢
    simp only at h2 ⊢
    split at h2
    · rename_i t n e hg
      split at h2
      · rename_i hc
        rw [if_pos hc]
        have := congrArg (fun s : Option SSt => s.map fun s => s.heap.get k) h2
        simp only [Option.map_some, SSt.put, T.get_set_same, Option.some.injEq] at this
        rw [this]
      · cases h2
    · cases h2
  have hmods : (SSt.put { heap := σ.heap, next := σ.next, mark := σ.next, mods := [] } k (some ob)).mods = [k] := by
    show (match Nat.blt k σ.next with | true => [k] | false => []) = [k]
    rw [bltT hkn]
  have hlk : lookOk bm lk [k] = true := by
    unfold lookOk
    rw [List.all_eq_true]
    intro p hp
    rcases hk p hp with h4 | h4
    · rw [h4]; rfl
    · simp [h4]
  have hput : (SSt.put σ k (some ob)) = { heap := σ.heap.set k (some ob), next := σ.next, mark := σ.mark, mods := [k].filter (Nat.blt · σ.mark) ++ σ.mods } := by
    unfold SSt.put
    simp [hkm]
  refine Fin.congr (g := fun n => evDraw E (evN E n).1 (evN E n).2 od (i + 1) loud (⟨i, σ.next, σ.next, [k]⟩ :: rs) ((i, k) :: lk) ⟨tm, ds, ro⟩ (SSt.put σ k (some ob))) (fun n => ?_) (h _ rfl h3)
  have hlight : lightOf (.mem (.store v.cells.length x y)) tm = some [k] := by simp only [lightOf, hx]
  simp only [evDraw, wantedS, SOp.loud, SOp.ld, hh, List.foldl_nil, evOp, oMem, evMem, mStore, hx, hy, Nat.beq_refl, hwv, hmods, hl, hlk, hlight, addLoud, addLooks, hput, Bool.or_true, Bool.and_true]
  rfl
end

/-! ### Ranges over functions -/
section
variable {tm : T SV} {ds : List Nat} {σ : SSt}
theorem WC.range {f : SX} {ps : List Nat} {x y : SCode} {g : FuncId} {cs : List SV} {Q : PostE} (hf : evX tm f = .func g cs)
    (h : WK E g (.yield (σ.next + 1) :: cs) ((σ.alloc .marker).alloc (.loop ⟨.ready, none, tm, ps, x, y, σ.next⟩)) fun _ σ2 => ∃ L : SLoop, σ2.heap.get (σ.next + 1) = some (.loop L) ∧ L.state ≠ .busy ∧
      match L.pending with
      | none => Q .normal ⟨tm, σ.next :: ds, none⟩ (σ2.put (σ.next + 1) (some (.loop { L with state := .exhausted })))
      | some .ret => Q .ret ⟨tm, σ.next :: ds, none⟩ (σ2.put (σ.next + 1) (some (.loop { L with state := .exhausted })))
      | some (.exit id) => Q (.exit id) ⟨tm, σ.next :: ds, none⟩ (σ2.put (σ.next + 1) (some (.loop { L with state := .exhausted })))) : WC E (.rangeFunc f ps x y) ⟨tm, ds, none⟩ σ Q := by
  refine WC.of ?_
  refine Fin.congr (g := fun n => ((evN E n).2 g (.yield (σ.next + 1) :: cs) ((σ.alloc .marker).alloc (.loop ⟨.ready, none, tm, ps, x, y, σ.next⟩))).bind (rangeEnd (σ.next + 1) ⟨tm, σ.next :: ds, none⟩)) (fun n => by
    simp only [evCode, evRange, rangeGo, hf]
    rfl) ?_
  refine Fin.bind (f := fun _ q => rangeEnd (σ.next + 1) ⟨tm, σ.next :: ds, none⟩ q) (Fin.mono h fun q hq => ?_)
  obtain ⟨v, σ2⟩ := q
  obtain ⟨L, h1, h2, h3⟩ := hq
  simp only at h1
  have hb : rangeEnd (σ.next + 1) ⟨tm, σ.next :: ds, none⟩ (v, σ2) = match L.pending with
      | none => .ok (.normal, ⟨tm, σ.next :: ds, none⟩, σ2.put (σ.next + 1) (some (.loop { L with state := .exhausted })))
      | some .ret => .ok (.ret, ⟨tm, σ.next :: ds, none⟩, σ2.put (σ.next + 1) (some (.loop { L with state := .exhausted })))
      | some (.exit id) => .ok (.exit id, ⟨tm, σ.next :: ds, none⟩, σ2.put (σ.next + 1) (some (.loop { L with state := .exhausted }))) := by
    simp only [rangeEnd, h1]
    cases hs : L.state with
    | busy => exact absurd hs h2
    | _ => rfl
  cases hp : L.pending with
  | none =>
    rw [hp] at h3 hb
    exact Fin.pure (r := (.normal, ⟨tm, σ.next :: ds, none⟩, _)) (fun _ => hb) h3
  | some j =>
    cases j with
    | ret => rw [hp] at h3 hb; exact Fin.pure (r := (.ret, ⟨tm, σ.next :: ds, none⟩, _)) (fun _ => hb) h3
    | exit id => rw [hp] at h3 hb; exact Fin.pure (r := (.exit id, ⟨tm, σ.next :: ds, none⟩, _)) (fun _ => hb) h3
/-- A round. -/
def Rnd (E : Env) (l : Nat) (args : List SV) (σ : SSt) (R : SV → SSt → Prop) : Prop := Fin (fun n => evRound (evN E n).1 l args σ) fun r => R r.1 r.2
theorem WP.yield {f : SX} {args : List SX} {l : Nat} {as : List SV} {R : SV → SSt → Prop} (hf : evX tm f = .yield l) (ha : args.map (evX tm) = as) (h : Rnd E l as σ R) : WP E (.call f args) tm σ R :=
  Fin.congr (fun n => by simp only [evOp, oCall, hf, ha]) h
theorem Rnd.of {l : Nat} {L : SLoop} {args : List SV} {tm1 : T SV} {R : SV → SSt → Prop} (hL : σ.heap.get l = some (.loop L)) (hp : setParams L.tm L.params args = some tm1)
    (h : WC E L.assign ⟨tm1, [], some l⟩ σ fun e a σ1 => e = .normal ∧ ∃ L1 : SLoop, σ1.heap.get l = some (.loop L1) ∧ L1.state = .ready ∧ WC E L.body a (σ1.put l (some (.loop { L1 with state := .busy }))) fun e2 _ σ2 => ∃ L2 : SLoop, σ2.heap.get l = some (.loop L2) ∧
      match e2 with
      | .normal => R (.bool true) (σ2.put l (some (.loop { L2 with state := .ready, pending := none })))
      | .ret => R (.bool false) (σ2.put l (some (.loop { L2 with state := .done, pending := some .ret })))
      | .exit id => R (.bool false) (σ2.put l (some (.loop { L2 with state := .done, pending := some (.exit id) })))) : Rnd E l args σ R := by
  refine Fin.congr (g := fun n => ((evN E n).1 L.assign ⟨tm1, [], some l⟩ σ).bind (roundBody (evN E n).1 l L.body)) (fun n => by simp only [evRound, hL, hp]) ?_
  refine Fin.bind (f := fun n q => roundBody (evN E n).1 l L.body q) (Fin.mono h fun q hq => ?_)
  obtain ⟨e, a, σ1⟩ := q
  obtain ⟨he, L1, h1, h2, h3⟩ := hq
  simp only at he h1
  subst he
  refine Fin.congr (g := fun n => ((evN E n).1 L.body a (σ1.put l (some (.loop { L1 with state := .busy })))).bind (roundEnd l)) (fun n => by simp only [roundBody, h1, h2]) ?_
  refine Fin.bind (f := fun _ q => roundEnd l q) (Fin.mono h3 fun q2 hq2 => ?_)
  obtain ⟨e2, a2, σ2⟩ := q2
  obtain ⟨L2, h4, h5⟩ := hq2
  simp only at h4
  cases e2 with
  | normal => exact Fin.pure (r := (.bool true, σ2.put l (some (.loop { L2 with state := .ready, pending := none })))) (fun _ => by simp only [roundEnd, h4]) h5
  | ret => exact Fin.pure (r := (.bool false, σ2.put l (some (.loop { L2 with state := .done, pending := some .ret })))) (fun _ => by simp only [roundEnd, h4]) h5
  | exit id => exact Fin.pure (r := (.bool false, σ2.put l (some (.loop { L2 with state := .done, pending := some (.exit id) })))) (fun _ => by simp only [roundEnd, h4]) h5
end
theorem Thn.n {y : SCode} {Q : PostE} {a : SAct} {σ : SSt} (h : WC E y a σ Q) : Thn E y Q .normal a σ := h
/-- Loops, by a measure. -/
theorem WC.loop_ind {c : SCode} {Q : PostE} (I : Nat → SAct → SSt → Prop) (step : ∀ n a σ, I n a σ → WC E c a σ fun e a' σ' => match e with
    | .normal => ∃ m, m < n ∧ I m a' σ'
    | e => Q e a' σ') : ∀ n a σ, I n a σ → WC E (.loop c) a σ Q := by
  intro n
  induction n using Nat.strongRecOn with
  | _ n ih =>
    intro a σ h
    refine WC.loop (WC.mono (step n a σ h) fun e a' σ' hq => ?_)
    cases e with
    | normal =>
      obtain ⟨m, hm, hI⟩ := hq
      exact ih m hm a' σ' hI
    | exit id => exact hq
    | ret => exact hq
end
end Go.Sh
