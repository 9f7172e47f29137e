/-
  The shadow machine, part O: rounds, single operations, regions in order.
-/
import Derived.Test.YthfijonopinghaaGreatDoorShN
set_option linter.unusedSimpArgs false
set_option linter.unusedVariables false
namespace Go.Sh
section
variable {C : Cx} {ρ : Ren} {σ : SSt} {w : World} {hi : Nat}

theorem bind_al {α β : Type} {st : α → SSt} {st' : β → SSt} {m : Ev α} {f : α → Ev β} {Q : β → Prop} (hw : WF σ) (hm : m.box fun x => Stp σ (st x)) (hf : ∀ x, (f x).box fun r => Stp (st x) (st' r)) (he : (m.bind f).all fun r => (st' r).next ≤ hi ∧ Q r) :
    m.all fun x => (st x).next ≤ hi ∧ (Stp σ (st x) ∧ (f x).all fun r => (st' r).next ≤ hi ∧ Q r) := by
  rw [Ev.all_bind] at he
  refine Ev.all_mono (fun x hx => ?_) _ (Ev.all_box _ he hm)
  obtain ⟨hs, ha⟩ := hx
  obtain ⟨r, h1, h2, _⟩ := Ev.all_get _ (Ev.all_box _ ha (hf x))
  exact ⟨Nat.le_trans (h1 (hw.stp hs).1).next h2, hs, ha⟩

/-! ### Rounds -/
theorem vr_yield {P : Program} {B : Nat} {sh : Shp} {l : Nat} {r : Value} (h : VR P B sh ρ (.yield l) r) : ∃ b, r = .func (.yield b) #[] #[] ∧ ρ l = some (b, 0) := by cases h; exact ⟨_, rfl, ‹_›⟩
theorem vr_func {P : Program} {B : Nat} {sh : Shp} {f : FuncId} {cs : List SV} {r : Value} (h : VR P B sh ρ (.func f cs) r) : ∃ rs : List Value, r = .func (.func f) #[] rs.toArray ∧ VRs P B sh ρ cs rs := by cases h; exact ⟨_, rfl, ‹_›⟩
theorem setParams_sound {P : Program} {B : Nat} {sh : Shp} : ∀ {ps : List Nat} {vs : List SV} {rs : List Value} {tm tm' : T SV} {rt : Array Value}, setParams tm ps vs = some tm' → TmR P B sh ρ tm rt → VRs P B sh ρ vs rs → (∀ p ∈ ps, p < rt.size) →
    ps.length = rs.length ∧ TmR P B sh ρ tm' ((ps.zip rs).foldl (fun tmps (p : Nat × Value) => tmps.setIfInBounds p.1 p.2) rt) ∧ ((ps.zip rs).foldl (fun tmps (p : Nat × Value) => tmps.setIfInBounds p.1 p.2) rt).size = rt.size := by
  intro ps
  induction ps with
  | nil =>
    intro vs rs tm tm' rt h ht hv hp
    cases hv with
    | nil => simp only [setParams, Option.some.injEq] at h; subst h; exact ⟨rfl, ht, rfl⟩
    | cons => simp [setParams] at h
  | cons p ps ih =>
    intro vs rs tm tm' rt h ht hv hp
    cases hv with
    | nil => simp [setParams] at h
    | cons hv1 hv2 =>
      rename_i v r vs rs
      simp only [setParams] at h
      have hlt := hp p (by simp)
      obtain ⟨h1, h2, h3⟩ := ih (rt := rt.setIfInBounds p r) h (fun t => by
        rw [getT_set]
        by_cases e : t = p
        · subst e
          rw [if_pos rfl]
          have : (rt.setIfInBounds t r).getD t undef = r := by simp [Array.getD_eq_getD_getElem?, hlt]
          rw [this]; exact hv1
        · rw [if_neg e]
          have : (rt.setIfInBounds p r).getD t undef = rt.getD t undef := by simp [Array.getD_eq_getD_getElem?, Array.getElem?_setIfInBounds_ne (Ne.symm e)]
          rw [this]; exact ht t) hv2 (fun q hq => by simpa using hp q (by simp [hq]))
      refine ⟨by simp [h1], by simpa using h2, by simpa using h3⟩
theorem Sim.loop (h : Sim C ρ σ w) {l b : Nat} {L : SLoop} (hg : σ.heap.get l = some (.loop L)) (hr : ρ l = some (b, 0)) : ∃ R, w.heap[b]? = some (.loop R) ∧ LoopR C.P C.B (World.shp w) ρ L R := by
  obtain ⟨b', off, h1, _, _, R, h2, h3⟩ := h.objs _ _ hg
  rw [hr] at h1
  cases h1
  exact ⟨R, h2, h3⟩
theorem shape_loop {b : Nat} {R : Loop} (h : w.heap[b]? = some (.loop R)) (p : TypeId × Nat) : w.shape? b ≠ some p := by
  unfold World.shape?; rw [h]; simp
theorem Ok.putLoop (h : Sim C ρ σ w) {l b : Nat} {L L' : SLoop} {R R' : Loop} (hg : σ.heap.get l = some (.loop L)) (hr : ρ l = some (b, 0)) (hw : w.heap[b]? = some (.loop R)) (hL : LoopR C.P C.B (World.shp w) ρ L' R') :
    Ok C ρ σ w ρ (σ.put l (some (.loop L'))) (w.putObj b (.loop R')) := by
  refine Ok.put (ro := .loop R') h hg hr (fun p hp => absurd hp (shape_loop hw p)) fun hsh => ⟨rfl, R', ?_, ⟨hL.state, hL.pending, fun t => (hL.tm t).mono hsh (fun _ _ h => h), hL.params, hL.comp, hL.defers⟩⟩
  rw [putO_heap _ _ _ _ (Array.getElem?_eq_some_iff.1 hw).1, if_pos rfl]
theorem round_sound {code : CodeF} (hcode : CodeOk C code) (hstp : CodeStp code) (hwf : WF σ) (h : Sim C ρ σ w) {l b : Nat} (hl : ρ l = some (b, 0)) {args : List SV} {rargs : List Value} (hargs : VRs C.P C.B (World.shp w) ρ args rargs) (hf : Free ρ σ hi)
    {Q : SV × SSt → Prop} (he : Al (evRound code l args σ) hi Q) (ro0 : Option Nat) : ∃ f tmps assign body, (Instr.yield b rargs.toArray).run C.P w = .ok (.round b f tmps assign body) w ∧
      RoundIn (FW ro0) 0 C.P b f tmps assign body w fun e w' => ∃ rv, e = .returned rv ∧ CallPost C ρ σ w Q rv w' := by
  simp only [Al, evRound] at he
  split at he
  · rename_i L hg
    obtain ⟨R, hR, hLR⟩ := h.loop hg hl
    split at he
    · exact he.elim
    · rename_i tm htm
      obtain ⟨N, hN, hps, hca, hcb⟩ := hLR.comp
      obtain ⟨h1, h2, h3⟩ := setParams_sound htm hLR.tm hargs (fun p hp => Nat.lt_of_lt_of_le (by simpa using List.all_eq_true.1 hps p hp) hN)
      have hsz : rargs.toArray.size = R.params.size := by
        have := congrArg List.length hLR.params
        simp at this
        simp; omega
      have hfold : (R.params.zip rargs.toArray).foldl (fun tmps (t, a) => tmps.setIfInBounds t a) R.tmps = (L.params.zip rargs).foldl (fun tmps (p : Nat × Value) => tmps.setIfInBounds p.1 p.2) R.tmps := by
        rw [← Array.foldl_toList, Array.toList_zip, hLR.params]
      refine ⟨_, _, _, _, run_yield hR hsz, roundIn_of_wpIn (FW_fn _ _) ?_⟩
      rw [FW_in, hfold]
      have he1 := bind_al (st := fun r : SExit × SAct × SSt => r.2.2) (st' := fun r : SV × SSt => r.2) hwf (hstp L.assign ⟨tm, [], some l⟩ σ) (roundBody_stp hstp l L.body) he
      have hA := (hcode N R.assign L.assign ⟨tm, [], some l⟩ { tmps := (L.params.zip rargs).foldl (fun tmps (p : Nat × Value) => tmps.setIfInBounds p.1 p.2) R.tmps, defers := [] } σ ρ w (some b) hi _ hca hwf h
        ⟨h2, by rw [h3]; exact hN, .nil⟩ hl hf he1).wpIn
      refine wpIn_mono hA fun e ra1 w1 hp => ?_
      obtain ⟨se, a1, σ1, ρ1, ⟨hs1, he2⟩, rfl, hok1, hact1, hro1⟩ := hp
      simp only [roundBody] at he2
      split at he2
      · rename_i L1 hg1
        split at he2
        · rename_i hst
          have hl1 := hok1.ext _ _ hl
          obtain ⟨R1, hR1, hLR1⟩ := hok1.sim.loop hg1 hl1
          have hwf1 := hwf.stp hs1
          have hput := Ok.putLoop (L' := { L1 with state := .busy }) (R' := { R1 with state := .busy }) hok1.sim hg1 hl1 hR1 ⟨rfl, hLR1.pending, hLR1.tm, hLR1.params, hLR1.comp, hLR1.defers⟩
          have hok2 := hok1.trans hput
          refine ⟨_, run_beginRound hR1 (by rw [hLR1.state, hst]; rfl), ?_⟩
          have hwf2 := hwf1.stp (Stp.put hg1 (some (.loop { L1 with state := .busy })))
          have he3 := bind_al (st := fun r : SExit × SAct × SSt => r.2.2) (st' := fun r : SV × SSt => r.2) hwf2 (hstp L.body a1 _) (roundEnd_stp l) he2
          have hB := (hcode N R.body L.body a1 ra1 _ ρ1 _ (some b) hi _ hcb hwf2 hok2.sim (hact1.ok hput) (by rw [hro1]; exact hl1) (hf.ok hok2) he3).wpIn
          refine wpIn_mono hB fun e ra2 w2 hp => ?_
          obtain ⟨se2, a2, σ2, ρ2, ⟨hs2, he4⟩, rfl, hok3, hact2, hro2⟩ := hp
          have hokA := hok2.trans hok3
          have hl2 := hokA.ext _ _ hl
          simp only [roundEnd] at he4
          split at he4
          · rename_i L2 hg2
            try simp only at hg2
            obtain ⟨R2, hR2, hLR2⟩ := hok3.sim.loop hg2 hl2
            split at he4
            · have hput2 := Ok.putLoop (L' := { L2 with state := .ready, pending := none }) (R' := { R2 with state := .ready, pending := none }) hok3.sim hg2 hl2 hR2 ⟨rfl, rfl, hLR2.tm, hLR2.params, hLR2.comp, hLR2.defers⟩
              exact ⟨_, _, run_endRound none hR2, .bool true, rfl, _, _, _, he4.2, hokA.trans hput2, .bool true⟩
            · have hput2 := Ok.putLoop (L' := { L2 with state := .done, pending := some .ret }) (R' := { R2 with state := .done, pending := some .ret }) hok3.sim hg2 hl2 hR2 ⟨rfl, rfl, hLR2.tm, hLR2.params, hLR2.comp, hLR2.defers⟩
              exact ⟨_, _, run_endRound (some .ret) hR2, .bool false, rfl, _, _, _, he4.2, hokA.trans hput2, .bool false⟩
            · rename_i id
              have hput2 := Ok.putLoop (L' := { L2 with state := .done, pending := some (.exit id) }) (R' := { R2 with state := .done, pending := some (.exit id) }) hok3.sim hg2 hl2 hR2 ⟨rfl, rfl, hLR2.tm, hLR2.params, hLR2.comp, hLR2.defers⟩
              exact ⟨_, _, run_endRound (some (.exit id)) hR2, .bool false, rfl, _, _, _, he4.2, hokA.trans hput2, .bool false⟩
          · exact he4.elim
        · exact he2.elim
      · exact he2.elim
  · exact he.elim

/-! ### One operation -/
theorem op_sound {code : CodeF} {call : CallF} (hcode : CodeOk C code) (hstp : CodeStp code) (hcall : CallOk C call) {N : Nat} {ops : Array Oper} {o : Oper} {so : SOper} (hc : compOper C.P N ops o = some so) (hwf : WF σ) (h : Sim C ρ σ w)
    {tm : T SV} {ra : Act} (hX : XR C.P C.B (World.shp w) ρ tm ra.eval o.op.operands) (ro : Option Nat) (hf : Free ρ σ hi) {Q : SV × SSt → Prop} (he : Al (evOp C.E so.op code call tm σ) hi Q) {K : Act → World → Prop} {Q2 : Exit → Act → World → Prop}
    (hK : ∀ rv w', CallPost C ρ σ w Q rv w' → K (ra.put o.dst rv) w') : o.wpIn (FW ro) 0 C.P ra w K Q2 := by
  refine ⟨fun f _ => FW_fn _ _, ?_⟩
  -- what the operation is compiled to
  have hop : so.op = (compOp C.P o).getD (.mem .bad) := by
    unfold compOper at hc
    split at hc
    · split at hc
      · cases hc; rfl
      · split at hc
        · cases hc; rfl
        · cases hc
    · cases hc
  rw [hop] at he
  cases hco : compOp C.P o with
  | none => rw [hco] at he; exact he.elim
  | some s =>
    rw [hco] at he
    simp only [Option.getD_some] at he
    rw [FW_round, Oper.semAt_eq ro ra.eval o (compOp_defer hco)]
    cases s with
    | loc l =>
      simp only [Al, evOp, oLoc] at he
      split at he
      · rename_i v hv
        obtain ⟨rv, h1, h2⟩ := loc_sound hX hco hv w
        rw [h1, Oper.uponIn_value]
        exact hK _ _ ⟨_, _, _, he.2, Ok.refl h, h2⟩
      · exact he.elim
    | mem m =>
      obtain ⟨v, σ', ρ', nx, w', h1, h2, h3, h4⟩ := mem_sound h hf hX hco he
      rw [h3]
      rcases h4 with ⟨rv, rfl, h5⟩ | ⟨rfl, rfl⟩
      · rw [Oper.uponIn_value]; exact hK _ _ ⟨_, _, _, h1, h2, h5⟩
      · rw [Oper.uponIn_skip]; exact hK _ _ ⟨_, _, _, h1, h2, VR.undef⟩
    | call f args =>
      obtain ⟨c, g, ho, hcal, hg, has⟩ := compOp_call hco
      rw [ho] at hX
      have hgv := hX g f (by simp [Op.operands, Call.operands, hcal]) hg
      have hav := hX.list (fun x hx => by simp only [Op.operands, Call.operands, Array.mem_append]; exact .inr (Array.mem_toList_iff.1 hx)) has
      have hargs : c.args.map ra.eval = (c.args.toList.map ra.eval).toArray := by rw [← Array.toList_map]
      simp only [Al, evOp, oCall] at he
      split at he
      · rename_i g' cs hfv
        rw [hfv] at hgv
        obtain ⟨rs, e1, hrs⟩ := vr_func hgv
        have hcalled := hcall g' _ _ σ ρ w hi Q hwf h (hav.append hrs) hf he
        have hinv : (execOp ra.eval o).run C.P w = (callFunc g' (c.args.toList.map ra.eval ++ rs).toArray).run C.P w := by
          simp only [execOp, ho, resolve, hcal, e1, Deferred.ofValue, Sem.run_bind, Sem.run_pure, Result.andThen_ok, invoke]
          rw [hargs]
          simp
        rw [hinv]
        rcases hcalled with ⟨h1, h2⟩ | ⟨s, rest, hsr, rv, w', h1, h2⟩
        · rw [h1, Oper.uponIn_enter]
          refine ⟨FW_one _ _, FW_calls (CallsIn.mono h2 fun e w' hp => ?_)⟩
          obtain ⟨rv, rfl, hp⟩ := hp
          exact hK _ _ hp
        · rw [h1, Oper.uponIn_value]
          exact hK _ _ h2
      · rename_i l hfv
        rw [hfv] at hgv
        obtain ⟨b, e1, hb⟩ := vr_yield hgv
        obtain ⟨f', tmps, assign, body, h1, h2⟩ := round_sound hcode hstp hwf h hb hav hf he ro
        have hinv : (execOp ra.eval o).run C.P w = (Instr.yield b (c.args.toList.map ra.eval).toArray).run C.P w := by
          simp only [execOp, ho, resolve, hcal, e1, Deferred.ofValue, Sem.run_bind, Sem.run_pure, Result.andThen_ok, invoke]
          rw [hargs]
          simp
        rw [hinv, h1, Oper.uponIn_round]
        refine ⟨FW_one _ _, RoundIn.mono h2 fun e w' hp => ?_⟩
        obtain ⟨rv, rfl, hp⟩ := hp
        exact hK _ _ hp
      · exact he.elim

/-! ### Operations in their order -/
theorem compOper_parts {P : Program} {N : Nat} {ops : Array Oper} {o : Oper} {so : SOper} (hc : compOper P N ops o = some so) : compGuard ops o.guard = some so.guard ∧ so.dst = o.dst ∧ ∀ d, o.dst = some d → d < N := by
  unfold compOper at hc
  split at hc
  · rename_i g hg
    split at hc
    · rename_i hd
      cases hc
      exact ⟨hg, hd.symm, fun d h => by rw [hd] at h; cases h⟩
    · rename_i d hd
      split at hc
      · rename_i hlt
        cases hc
        exact ⟨hg, hd.symm, fun d' h => by rw [hd] at h; cases h; exact hlt⟩
      · cases hc
  · cases hc
/-- After operations: the act, the state, the world. -/
def OpsPost (C : Cx) (N : Nat) (a : SAct) (ρ : Ren) (σ : SSt) (w : World) (Q : SAct × SSt → Prop) (ra' : Act) (w' : World) : Prop :=
  ∃ a' σ' ρ', Q (a', σ') ∧ Ok C ρ σ w ρ' σ' w' ∧ ActR C ρ' w' N a' ra' ∧ a'.ro = a.ro
theorem SAct.put_ro (a : SAct) (dst : Option Nat) (v : SV) : (a.put dst v).ro = a.ro := by cases dst <;> rfl
theorem ops_sound {code : CodeF} {call : CallF} (hcode : CodeOk C code) (hstp : CodeStp code) (hcall : CallOk C call) (hcstp : CallStp call) {N : Nat} {ops : Array Oper} (ro : Option Nat) {Q2 : Exit → Act → World → Prop} :
    ∀ (l : List Oper) (i : Nat) (sl : List SOper), (∀ j o, l[j]? = some o → ops[i + j]? = some o) → l.mapM (compOper C.P N ops) = some sl → ∀ (a : SAct) (ra : Act) (σ : SSt) (ρ : Ren) (w : World) (Q : SAct × SSt → Prop), WF σ → Sim C ρ σ w → ActR C ρ w N a ra → Free ρ σ hi →
      ((evOps C.E code call sl a σ).all fun r => r.2.next ≤ hi ∧ Q r) → (∀ ra' w', OpsPost C N a ρ σ w Q ra' w' → Q2 .normal ra' w') → wpOpsIn (FW ro) 0 C.P ops Q2 (List.range' i l.length) ra w := by
  intro l
  induction l with
  | nil =>
    intro i sl hl hm a ra σ ρ w Q hwf h ha hf he hq
    simp at hm
    subst hm
    rw [evOps_nil] at he
    exact hq _ _ ⟨a, σ, ρ, he.2, Ok.refl h, ha, rfl⟩
  | cons o l ih =>
    intro i sl hl hm a ra σ ρ w Q hwf h ha hf he hq
    simp only [List.mapM_cons, Option.bind_eq_bind, Option.bind_eq_some_iff, Option.pure_def, Option.some.injEq] at hm
    obtain ⟨so, hso, sl, hsl, rfl⟩ := hm
    have ho : ops[i]? = some o := by simpa using hl 0 o rfl
    have hl' : ∀ j o', l[j]? = some o' → ops[i + 1 + j]? = some o' := fun j o' hj => by
      have := hl (j + 1) o' (by simpa using hj)
      rw [show i + 1 + j = i + (j + 1) by omega]
      exact this
    obtain ⟨hg, hd, hdn⟩ := compOper_parts hso
    have hwant := wanted_sound hg (fun d b _ => ha.tm d)
    rw [evOps_cons] at he
    simp only [List.length_cons, List.range'_succ, wpOpsIn, ho]
    rw [hwant]
    split at he
    · rename_i hw
      rw [if_pos hw]
      have he1 := bind_al (st := fun r : SV × SSt => r.2) (st' := fun r : SAct × SSt => r.2) hwf (evOp_stp hstp hcstp so.op a.tm σ) (fun x => evOps_stp hstp hcstp sl _ x.2) he
      refine op_sound hcode hstp hcall hso hwf h (ha.xr _) ro hf he1 fun rv w1 hp => ?_
      obtain ⟨v, σ1, ρ1, ⟨hs, he2⟩, hok, hv⟩ := hp
      refine ih (i + 1) sl hl' hsl (a.put so.dst v) (ra.put o.dst rv) σ1 ρ1 w1 Q (hwf.stp hs) hok.sim ?_ (hf.ok hok) he2 fun ra' w' hp => ?_
      · rw [hd]; exact (ha.ok hok).put hdn hv
      · obtain ⟨a', σ', ρ', q1, q2, q3, q4⟩ := hp
        exact hq _ _ ⟨a', σ', ρ', q1, hok.trans q2, q3, by rw [q4, SAct.put_ro]⟩
    · rename_i hw
      rw [if_neg (by rw [hw]; simp)]
      refine ⟨fun f _ => FW_fn _ _, ih (i + 1) sl hl' hsl (a.put so.dst undefS) (ra.put o.dst undef) σ ρ w Q hwf h ?_ hf he fun ra' w' hp => ?_⟩
      · rw [hd]; exact ha.put hdn VR.undef
      · obtain ⟨a', σ', ρ', q1, q2, q3, q4⟩ := hp
        exact hq _ _ ⟨a', σ', ρ', q1, q2, q3, by rw [q4, SAct.put_ro]⟩
end
end Go.Sh
