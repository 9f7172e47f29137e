/-
  The shadow machine, part T: code.
-/
import Derived.Test.YthfijonopinghaaGreatDoorShS
set_option linter.unusedSimpArgs false
set_option linter.unusedVariables false
namespace Go.Sh
section
variable {C : Cx} {ρ : Ren} {σ : SSt} {w : World} {hi : Nat} {code : CodeF} {call : CallF}

/-! ### Ranges over functions -/
theorem rangeGo_sound (hcall : CallOk C call) (hcstp : CallStp call) {N : Nat} {f : Operand} {ps : Array Tmp} {x y : Code} {sf : SX} {sx sy : SCode} (hf : compX f = some sf) (hx : compCode C.P N x = some sx) (hy : compCode C.P N y = some sy) (hps : ps.toList.all (· < N) = true)
    {ro : Option Nat} {fn : FuncId} {a : SAct} {ra : Act} {Q : SExit × SAct × SSt → Prop} {ρ1 : Ren} {σ1 : SSt} {w1 w0 : World} (hwf : WF σ1) (hok : Ok C ρ σ w ρ1 σ1 w1) (ha : ActR C ρ w N a ra) (hfree : Free ρ1 σ1 hi) {m bd : Nat} (hm : ρ1 m = some (bd, 0)) {ds : List Nat} {mark : List Deferred} (hds : DfR ρ1 ds (mark ++ ra.defers))
    (hent : (Instr.enterLoop fn ra.tmps ps x y ro).run C.P w = .ok (w1.heap.size, mark) (w1.alloc (.loop { state := .ready, pending := none, fn, tmps := ra.tmps, params := ps, assign := x, body := y, defers := bd })))
    (he : AlC (rangeGo sf ps.toList sx sy call a m ds σ1) hi Q) :
    ∃ (l : Nat) (mark : List Deferred) (w₁ : World) (d : Deferred) (w₁' : World) (g : FuncId) (args : Array Value) (w₂ : World),
      (Instr.enterLoop fn ra.tmps ps x y ro).run C.P w = .ok (l, mark) w₁ ∧ (resolve ra.eval (rangeCall f l) 0).run C.P w₁ = .ok d w₁' ∧ (∀ f', Target.leads C.P w₁' d.target d.args = some f' → (FW ro).fn f') ∧
      (invoke d.target d.args).run C.P w₁' = .ok (.enter g args) w₂ ∧ ((FW ro).depth.isSome = true → 1 ≤ 0) ∧ CallsIn (FW ro) (0 - 1) C.P g args w₂ (rangePost (FW ro) 0 C.P l (PostC C N a ρ σ w Q) { ra with defers := mark ++ ra.defers }) := by
  simp only [AlC, rangeGo] at he
  split at he
  · rename_i g cs hg
    have hfv := evX_sound ha hf
    rw [hg] at hfv
    obtain ⟨rs, hfe, hrs⟩ := vr_func hfv
    have hwf2 : WF (σ1.alloc (.loop ⟨.ready, none, a.tm, ps.toList, sx, sy, m⟩)) := hwf.stp (Stp.alloc _ _)
    have he1 := bind_al (st := fun r : SV × SSt => r.2) (st' := fun r : SExit × SAct × SSt => r.2.2) hwf2 (hcstp _ _ _) (rangeEnd_stp _ _) he
    -- the record is new
    have hnew : ρ1 σ1.next = none := by
      obtain ⟨r, h1, h2, h3⟩ := Ev.all_get _ he1
      have := (h2 hwf2.1).next
      exact hfree _ (Nat.le_refl _) (Nat.lt_of_lt_of_le (Nat.lt_of_lt_of_le (Nat.lt_succ_self _) this) h1)
    let R : Loop := { state := .ready, pending := none, fn, tmps := ra.tmps, params := ps, assign := x, body := y, defers := bd }
    have hext := upd_ext ρ1 (w1.heap.size, 0) hnew
    have hsh : ∀ b p, World.shp w1 b = some p → World.shp (w1.alloc (.loop R)) b = some p := fun b p hb => (shape_of_heap (heap_push w1 _ b (shape_lt hb))).trans hb
    have hokL : Ok C ρ1 σ1 w1 (upd ρ1 σ1.next (w1.heap.size, 0)) (σ1.alloc (.loop ⟨.ready, none, a.tm, ps.toList, sx, sy, m⟩)) (w1.alloc (.loop R)) :=
      Ok.new hok.sim hnew ⟨rfl, R, heap_push_new _ _, ⟨rfl, rfl, fun t => (hok.vr (ha.tm t)).mono hsh hext, rfl, ⟨N, ha.size, hps, hx, hy⟩, hext _ _ hm⟩⟩
    have hok2 := hok.trans hokL
    have hl : upd ρ1 σ1.next (w1.heap.size, 0) σ1.next = some (w1.heap.size, 0) := upd_same _ _ _
    have hcalled := hcall g (.yield σ1.next :: cs) (.func (.yield w1.heap.size) #[] #[] :: rs) _ _ _ hi _ hwf2 hokL.sim (.cons (.yield hl) (hok2.vrs hrs)) (hfree.ok hokL) he1
    rcases hcalled with ⟨h1, h2⟩ | ⟨s, rest, hsr, _⟩
    · refine ⟨w1.heap.size, mark, w1.alloc (.loop R), { target := .fn (.func g) rs.toArray, args := #[.func (.yield w1.heap.size) #[] #[]] }, w1.alloc (.loop R), g, (Value.func (.yield w1.heap.size) #[] #[] :: rs).toArray, w1.alloc (.loop R), hent, ?_, fun _ _ => FW_fn _ _, ?_, FW_one _ _, FW_calls (CallsIn.mono h2 fun e w3 hp => ?_)⟩
      · have h5 : ra.eval (.const (.func (.yield w1.heap.size) #[] #[])) = .func (.yield w1.heap.size) #[] #[] := rfl
        simp [resolve, hfe, h5, Deferred.ofValue, Sem.run_bind]
      · rw [← h1]
        simp [invoke]
      · obtain ⟨rv, rfl, v3, σ3, ρ3, ⟨hs3, he3⟩, hok3, hv3⟩ := hp
        have hok4 := hok2.trans hok3
        have hl3 := hok3.ext _ _ hl
        simp only [rangeEnd] at he3
        split at he3
        · rename_i L3 hg3
          obtain ⟨R3, hR3, hLR3⟩ := hok3.sim.loop hg3 hl3
          have hput := Ok.putLoop (L' := { L3 with state := .exhausted }) (R' := { R3 with state := .exhausted }) hok3.sim hg3 hl3 hR3 ⟨rfl, hLR3.pending, hLR3.tm, hLR3.params, hLR3.comp, hLR3.defers⟩
          have hfin := hok4.trans hput
          have hact : ActR C ρ3 (w3.putObj w1.heap.size (.loop { R3 with state := .exhausted })) N { a with defers := ds } { ra with defers := mark ++ ra.defers } :=
            ⟨fun t => hfin.vr (ha.tm t), ha.size, hds.mono fun k p h => hok3.ext _ _ (hokL.ext _ _ h)⟩
          split at he3
          · exact he3.elim
          · rename_i hnb
            have hend := run_endLoop (P := C.P) hR3 (by
              rw [hLR3.state]
              intro hb
              cases hst : L3.state with
              | busy => exact hnb hst
              | ready => rw [hst] at hb; cases hb
              | done => rw [hst] at hb; cases hb
              | exhausted => rw [hst] at hb; cases hb)
            have hend' : (Instr.endLoop w1.heap.size).run C.P w3 = .ok (L3.pending.map jumpR) (w3.putObj w1.heap.size (.loop { R3 with state := .exhausted })) := by
              rw [← hLR3.pending]; exact hend
            split at he3
            · rename_i hpd
              refine ⟨_, _, hend', ?_⟩
              rw [hpd]
              exact ⟨.normal, _, _, ρ3, he3.2, rfl, hfin, hact, rfl⟩
            · rename_i hpd
              refine ⟨_, _, hend', ?_⟩
              rw [hpd]
              exact wpIn_ret ⟨.ret, _, _, ρ3, he3.2, rfl, hfin, hact, rfl⟩
            · rename_i id hpd
              refine ⟨_, _, hend', ?_⟩
              rw [hpd]
              exact wpIn_exit ⟨.exit id, _, _, ρ3, he3.2, rfl, hfin, hact, rfl⟩
        · exact he3.elim
    · cases hsr
  · exact he.elim
theorem range_code_sound (hcall : CallOk C call) (hcstp : CallStp call) {N : Nat} {f : Operand} {ps : Array Tmp} {x y : Code} {sf : SX} {sx sy : SCode} (hf : compX f = some sf) (hx : compCode C.P N x = some sx) (hy : compCode C.P N y = some sy) (hps : ps.toList.all (· < N) = true)
    {ro : Option Nat} {a : SAct} {ra : Act} {Q : SExit × SAct × SSt → Prop} (hwf : WF σ) (h : Sim C ρ σ w) (ha : ActR C ρ w N a ra) (hro : RoR ρ a.ro ro) (hfree : Free ρ σ hi) (he : AlC (evRange sf ps.toList sx sy code call a σ) hi Q) :
    (Code.rangeFunc f ps x y).wpIn (FW ro) 0 C.P (PostC C N a ρ σ w Q) ra w := by
  refine wpIn_rangeFunc fun fn _ => ?_
  rw [FW_round]
  simp only [AlC, evRange] at he
  split at he
  · rename_i har
    rw [har] at hro
    cases ro with
    | some b => exact hro.elim
    | none =>
      have hwf1 : WF (σ.alloc .marker) := hwf.stp (Stp.alloc _ _)
      have hnew : ρ σ.next = none := by
        obtain ⟨r, h1, h2, h3⟩ := Ev.all_get _ (Ev.all_box _ he (rangeGo_stp hcstp _ _ _ _ _ _ _ _))
        have := (h1 hwf1.1).next
        exact hfree _ (Nat.le_refl _) (Nat.lt_of_lt_of_le (Nat.lt_of_lt_of_le (Nat.lt_succ_self _) this) h2)
      have hok := Ok.new (o := .marker) (ro := .deferred (some [])) (off := 0) h hnew ⟨rfl, heap_push_new _ _⟩
      refine rangeGo_sound hcall hcstp hf hx hy hps (w0 := w) hwf1 hok ha (hfree.ok hok) (m := σ.next) (bd := w.heap.size) (upd_same _ _ _) (mark := [{ target := .collected w.heap.size, args := #[] }]) (.cons (upd_same _ _ _) rfl (ha.defers.mono (upd_ext ρ _ hnew))) ?_ he
      rw [run_enterLoop_outer]
      simp
  · rename_i l har
    rw [har] at hro
    cases ro with
    | none => exact hro.elim
    | some b =>
      split at he
      · rename_i L hg
        obtain ⟨R, hR, hLR⟩ := h.loop hg hro
        refine rangeGo_sound hcall hcstp hf hx hy hps (w0 := w) hwf (Ok.refl h) ha hfree hLR.defers (mark := []) ha.defers ?_ he
        simp [Instr.enterLoop, Sem.run_bind, run_getLoop hR]
      · exact he.elim

/-! ### Code -/
theorem PostC.trans {N : Nat} {a a1 : SAct} {ρ1 : Ren} {σ1 : SSt} {w1 : World} (hok : Ok C ρ σ w ρ1 σ1 w1) (hro : a1.ro = a.ro) {Q : SExit × SAct × SSt → Prop} {e : Exit} {ra' : Act} {w' : World} (h : PostC C N a1 ρ1 σ1 w1 Q e ra' w') : PostC C N a ρ σ w Q e ra' w' := by
  obtain ⟨se, a', σ', ρ', q1, q2, q3, q4, q5⟩ := h
  exact ⟨se, a', σ', ρ', q1, q2, hok.trans q3, q4, q5.trans hro⟩
theorem code_sound (hcode : CodeOk C code) (hstp : CodeStp code) (hcall : CallOk C call) (hcstp : CallStp call) : CodeOk C (fun c => evCode C.E c code call) := by
  intro N c sc a ra σ ρ w ro hi Q hc hwf h ha hro hf he
  cases c with
  | skip =>
    simp only [compCode, Option.some.injEq] at hc
    subst hc
    exact wpIn_skip ⟨.normal, a, σ, ρ, he.2, rfl, Ok.refl h, ha, rfl⟩
  | label l =>
    simp only [compCode, Option.some.injEq] at hc
    subst hc
    exact wpIn_label ⟨.normal, a, σ, ρ, he.2, rfl, Ok.refl h, ha, rfl⟩
  | exit id =>
    simp only [compCode, Option.some.injEq] at hc
    subst hc
    exact wpIn_exit ⟨.exit id, a, σ, ρ, he.2, rfl, Ok.refl h, ha, rfl⟩
  | ret =>
    simp only [compCode, Option.some.injEq] at hc
    subst hc
    exact wpIn_ret ⟨.ret, a, σ, ρ, he.2, rfl, Ok.refl h, ha, rfl⟩
  | goto l => simp only [compCode, Option.some.injEq] at hc; subst hc; exact he.elim
  | refuse why => simp only [compCode, Option.some.injEq] at hc; subst hc; exact he.elim
  | region id ops d =>
    simp only [compCode] at hc
    split at hc
    · cases hc
    · rename_i sl hsl
      split at hc
      · rename_i hd
        split at hc
        · rename_i hch
          cases hc
          subst hd
          rw [Bool.and_eq_true, Bool.and_eq_true] at hch
          simp only [AlC, evCode, cDraw] at he
          rw [Ev.all_bind] at he
          refine draw_sound (Q := fun r => Q (.normal, r.1, r.2)) hcode hstp hcall hcstp hch.1.1 hch.1.2 hch.2 hsl ro hwf h ha hf he fun ra' w' hp => ?_
          obtain ⟨a', σ', ρ', q1, q2, q3, q4⟩ := hp
          exact ⟨.normal, a', σ', ρ', q1, rfl, q2, q3, q4⟩
        · cases hc
      · rename_i hd
        cases hc
        have hd' : d = false := by simpa using hd
        subst hd'
        simp only [AlC, evCode, cRegion] at he
        rw [Ev.all_bind] at he
        refine wpIn_region ?_
        have := ops_sound (Q2 := PostC C N a ρ σ w Q) hcode hstp hcall hcstp ro ops.toList 0 sl (fun j o hj => by simpa using hj) hsl a ra σ ρ w (fun r => Q (.normal, r.1, r.2)) hwf h ha hf he fun ra' w' hp => by
          obtain ⟨a', σ', ρ', q1, q2, q3, q4⟩ := hp
          exact ⟨.normal, a', σ', ρ', q1, rfl, q2, q3, q4⟩
        rw [List.range_eq_range']
        simpa using this
  | seq x y =>
    simp only [compCode] at hc
    split at hc
    · rename_i sx sy hx hy
      cases hc
      simp only [AlC, evCode, cSeq] at he
      have he1 := bind_al (st := fun r : SExit × SAct × SSt => r.2.2) (st' := fun r : SExit × SAct × SSt => r.2.2) hwf (hstp sx a σ) (fun r => by
        obtain ⟨e, a1, σ1⟩ := r
        simp only
        split
        · exact hstp _ _ _
        · exact Stp.refl _) he
      refine wpIn_seq (wpIn_mono (hcode N x sx a ra σ ρ w ro hi _ hx hwf h ha hro hf he1).wpIn fun e ra1 w1 hp => ?_)
      obtain ⟨se, a1, σ1, ρ1, ⟨hs, he2⟩, rfl, hok, hact, hro1⟩ := hp
      cases se with
      | normal => exact wpIn_mono (hcode N y sy a1 ra1 σ1 ρ1 w1 ro hi Q hy (hwf.stp hs) hok.sim hact (by rw [hro1]; exact hro.mono hok.ext) (hf.ok hok) he2).wpIn fun e ra' w' hp => hp.trans hok hro1
      | exit id => exact ⟨.exit id, a1, σ1, ρ1, he2.2, rfl, hok, hact, hro1⟩
      | ret => exact ⟨.ret, a1, σ1, ρ1, he2.2, rfl, hok, hact, hro1⟩
    · cases hc
  | cond x c d =>
    simp only [compCode] at hc
    split at hc
    · rename_i sx sc sd hx hsc hsd
      cases hc
      simp only [AlC, evCode, cCond] at he
      have hv := evX_sound ha hx
      split at he
      · rename_i b hb
        rw [hb] at hv
        have hev := vr_bool hv
        split at he
        · exact wpIn_cond_true hev (hcode N c sc a ra σ ρ w ro hi Q hsc hwf h ha hro hf he).wpIn
        · exact wpIn_cond_false hev (hcode N d sd a ra σ ρ w ro hi Q hsd hwf h ha hro hf he).wpIn
      · exact he.elim
    · cases hc
  | block id c =>
    simp only [compCode, Option.map_eq_some_iff] at hc
    obtain ⟨sc, hsc, rfl⟩ := hc
    simp only [AlC, evCode, cBlock] at he
    have he1 := bind_al (st := fun r : SExit × SAct × SSt => r.2.2) (st' := fun r : SExit × SAct × SSt => r.2.2) hwf (hstp sc a σ) (fun r => by
      obtain ⟨e, a1, σ1⟩ := r
      simp only
      split <;> exact Stp.refl _) he
    refine wpIn_block (wpIn_mono (hcode N c sc a ra σ ρ w ro hi _ hsc hwf h ha hro hf he1).wpIn fun e ra1 w1 hp => ?_)
    obtain ⟨se, a1, σ1, ρ1, ⟨hs, he2⟩, rfl, hok, hact, hro1⟩ := hp
    cases se with
    | normal => exact ⟨.normal, a1, σ1, ρ1, he2.2, rfl, hok, hact, hro1⟩
    | ret => exact ⟨.ret, a1, σ1, ρ1, he2.2, rfl, hok, hact, hro1⟩
    | exit i =>
      simp only [Ev.all] at he2
      show if i = id then _ else _
      by_cases e : i = id
      · rw [if_pos e]
        rw [beqT e] at he2
        exact ⟨.normal, a1, σ1, ρ1, he2.2, rfl, hok, hact, hro1⟩
      · rw [if_neg e]
        rw [beqF e] at he2
        exact ⟨.exit i, a1, σ1, ρ1, he2.2, rfl, hok, hact, hro1⟩
  | loop c =>
    simp only [compCode, Option.map_eq_some_iff] at hc
    obtain ⟨sc, hsc, rfl⟩ := hc
    simp only [AlC, evCode, cLoop] at he
    have he1 := bind_al (st := fun r : SExit × SAct × SSt => r.2.2) (st' := fun r : SExit × SAct × SSt => r.2.2) hwf (hstp sc a σ) (fun r => by
      obtain ⟨e, a1, σ1⟩ := r
      simp only
      split
      · exact hstp _ _ _
      · exact Stp.refl _) he
    refine LoopW.step (wpIn_mono (hcode N c sc a ra σ ρ w ro hi _ hsc hwf h ha hro hf he1).wpIn fun e ra1 w1 hp => ?_)
    obtain ⟨se, a1, σ1, ρ1, ⟨hs, he2⟩, rfl, hok, hact, hro1⟩ := hp
    cases se with
    | normal =>
      have hrec : LoopW (FW ro) 0 C.P c (PostC C N a1 ρ1 σ1 w1 Q) ra1 w1 := hcode N (.loop c) (.loop sc) a1 ra1 σ1 ρ1 w1 ro hi Q (by simp [compCode, hsc]) (hwf.stp hs) hok.sim hact (by rw [hro1]; exact hro.mono hok.ext) (hf.ok hok) he2
      intro b k cs hb1 hb2 hb3
      obtain ⟨e, a', w', hq, harr⟩ := hrec b k cs hb1 hb2 hb3
      exact ⟨e, a', w', hq.trans hok hro1, harr⟩
    | exit id => exact ⟨.exit id, a1, σ1, ρ1, he2.2, rfl, hok, hact, hro1⟩
    | ret => exact ⟨.ret, a1, σ1, ρ1, he2.2, rfl, hok, hact, hro1⟩
  | rangeFunc f ps x y =>
    simp only [compCode] at hc
    split at hc
    · rename_i sf sx sy hsf hsx hsy
      split at hc
      · rename_i hps
        cases hc
        exact range_code_sound (code := code) hcall hcstp hsf hsx hsy hps hwf h ha hro hf he
      · cases hc
    · cases hc
  | scope c =>
    simp only [compCode, Option.map_eq_some_iff] at hc
    obtain ⟨sc, hsc, rfl⟩ := hc
    refine wpIn_scope (hcode N c sc a ra σ ρ w ro hi Q hsc hwf h ha hro hf he).wpIn fun l a' w' hp => ?_
    obtain ⟨se, a1, σ1, ρ1, _, hx, _⟩ := hp
    cases se <;> cases hx
end
end Go.Sh
