/-
  The shadow machine, part N: what is to be shown of code and of calls; single operations.
-/
import Derived.Test.YthfijonopinghaaGreatDoorShM
set_option linter.unusedSimpArgs false
set_option linter.unusedVariables false
namespace Go.Sh

/-! ### The fences: wide, in a round or not -/
def FW : Option Nat → Fence
  | none => Fence.wide
  | some l => Fence.wide.inRound l
theorem FW_fn (ro : Option Nat) (f : FuncId) : (FW ro).fn f := by cases ro <;> trivial
theorem FW_depth (ro : Option Nat) : (FW ro).depth = none := by cases ro <;> rfl
theorem FW_one (ro : Option Nat) (n : Nat) : (FW ro).depth.isSome = true → 1 ≤ n := by rw [FW_depth]; intro h; cases h
theorem FW_round (ro : Option Nat) : (FW ro).round = ro := by cases ro <;> rfl
theorem FW_in (ro : Option Nat) (l : Nat) : (FW ro).inRound l = FW (some l) := by cases ro <;> rfl
theorem FW_calls {ro : Option Nat} {n : Nat} {P : Program} {f : FuncId} {args : Array Value} {w : World} {R : Ending → World → Prop} (h : CallsIn Fence.wide n P f args w R) : CallsIn (FW ro) n P f args w R := by
  cases ro with
  | none => exact h
  | some l => exact CallsIn.inRound l h

/-! ### Rules that the kit has not: loops by hand, scopes without jumps -/
section rules
variable {F : Fence} {n : Nat} {P : Program} {Q : Exit → Act → World → Prop} {a : Act} {w : World}
def LoopW (F : Fence) (n : Nat) (P : Program) (c : Code) (Q : Exit → Act → World → Prop) (a : Act) (w : World) : Prop :=
  ∀ (b : Frame) (k : List Item) (cs : List Frame), b.roundOf = F.round → F.fn b.fn → F.room (cs.length + 1 + n) →
    ∃ e a' w', Q e a' w' ∧ ArrivesIn (Machine.fenced P F) P (lone (b.atR a (.code c :: .inLoop c :: k)) cs w) b k cs e a' w'
theorem LoopW.step {c : Code} (h : c.wpIn F n P (Exit.then (LoopW F n P c Q) Q) a w) : LoopW F n P c Q a w := by
  intro b k cs hro hb hr
  obtain ⟨e, a₁, w₁, hq, harr⟩ := h b (.inLoop c :: k) cs hro hb hr
  cases e with
  | normal =>
    obtain ⟨e₂, a₂, w₂, hq₂, harr₂⟩ := hq b k cs hro hb hr
    exact ⟨e₂, a₂, w₂, hq₂, .of_steps (StepsIn.trans harr (.one (fenced_calm hb hr rfl) stepR_inLoop)) harr₂⟩
  | exit id => exact ⟨_, a₁, w₁, hq, .pass (x := .inLoop c) rfl (fun _ _ => .inl (by simp)) harr⟩
  | goto l => exact ⟨_, a₁, w₁, hq, .pass (x := .inLoop c) rfl (fun _ _ => .inl (by simp)) harr⟩
  | ret => exact ⟨_, a₁, w₁, hq, .pass (x := .inLoop c) rfl (fun _ _ => .inl (by simp)) harr⟩
  | panic ch => exact ⟨_, a₁, w₁, hq, .pass (x := .inLoop c) rfl (fun _ _ => .inl (by simp)) harr⟩
  | outgrown => exact ⟨_, a₁, w₁, hq, .pass (x := .inLoop c) rfl (fun _ _ => .inl (by simp)) harr⟩
theorem LoopW.wpIn {c : Code} (h : LoopW F n P c Q a w) : (Code.loop c).wpIn F n P Q a w := fun b k cs hro hb hr =>
  let ⟨e, a', w', hq, harr⟩ := h b k cs hro hb hr
  ⟨e, a', w', hq, .of_steps (.one (fenced_calm hb hr rfl) stepR_loop) harr⟩
def wpL (F : Fence) (n : Nat) (P : Program) (c : Code) (Q : Exit → Act → World → Prop) (a : Act) (w : World) : Prop :=
  match c with
  | .loop c => LoopW F n P c Q a w
  | c => c.wpIn F n P Q a w
theorem wpL.wpIn {c : Code} (h : wpL F n P c Q a w) : c.wpIn F n P Q a w := by
  cases c <;> first | exact LoopW.wpIn h | exact h
theorem stepR_scope {b : Frame} {k : List Item} {cs : List Frame} {c : Code} : step P (lone (b.atR a (.code (.scope c) :: k)) cs w) = .next (lone (b.atR a (.code c :: .inScope c :: k)) cs w) :=
  step_lone_go (by simp [stepG, stepG.exec, Frame.atR])
theorem stepR_inScope {b : Frame} {k : List Item} {cs : List Frame} {c : Code} : step P (lone (b.atR a (.inScope c :: k)) cs w) = .next (lone (b.atR a k) cs w) :=
  step_lone_go (by simp [stepG, stepG.exec, Frame.atR])
theorem wpIn_scope {c : Code} (h : c.wpIn F n P Q a w) (hg : ∀ l a w, ¬ Q (.goto l) a w) : (Code.scope c).wpIn F n P Q a w := by
  intro b k cs hro hb hr
  have h0 : (lone (b.atR a (.code (.scope c) :: k)) cs w).fenced P F := fenced_calm hb hr rfl
  obtain ⟨e, a₁, w₁, hq, harr⟩ := h b (.inScope c :: k) cs hro hb hr
  cases e with
  | normal => exact ⟨.normal, a₁, w₁, hq, .head h0 stepR_scope (StepsIn.trans harr (.one (fenced_calm hb hr rfl) stepR_inScope))⟩
  | exit id =>
    have hx : exitTo id (.inScope c :: k) = exitTo id k := by simp [exitTo]
    exact ⟨.exit id, a₁, w₁, hq, fun k' hk => .head h0 stepR_scope (harr.1 k' (by rw [hx]; exact hk)),
      fun hr' hk => let ⟨k₁, h1, h2⟩ := harr.2 hr' (by rw [hx]; exact hk); ⟨k₁, h1, .head h0 stepR_scope h2⟩⟩
  | goto l => exact (hg _ _ _ hq).elim
  | ret => exact ⟨_, a₁, w₁, hq, .of_steps (.one h0 stepR_scope) harr⟩
  | panic ch => exact ⟨_, a₁, w₁, hq, .of_steps (.one h0 stepR_scope) harr⟩
  | outgrown => exact ⟨_, a₁, w₁, hq, .of_steps (.one h0 stepR_scope) harr⟩
end rules

/-! ### What is to be shown -/
section
variable {C : Cx} {ρ : Ren} {σ : SSt} {w : World} {hi : Nat}
def RoR (ρ : Ren) : Option Nat → Option Nat → Prop
  | none, none => True
  | some l, some b => ρ l = some (b, 0)
  | _, _ => False
theorem RoR.mono {ρ ρ' : Ren} (h : ∀ k p, ρ k = some p → ρ' k = some p) : ∀ {x y : Option Nat}, RoR ρ x y → RoR ρ' x y
  | none, none, _ => trivial
  | some _, some _, hr => h _ _ hr
  | none, some _, hr => hr.elim
  | some _, none, hr => hr.elim
def exitR : SExit → Exit
  | .normal => .normal
  | .exit id => .exit id
  | .ret => .ret
def WF (σ : SSt) : Prop := σ.mark ≤ σ.next ∧ ∀ k, σ.next ≤ k → σ.heap.get k = none
theorem WF.stp {σ σ' : SSt} (h : WF σ) (hs : Stp σ σ') : WF σ' := by
  have h1 := hs h.1
  exact ⟨by rw [h1.mark]; exact Nat.le_trans h.1 h1.next, h1.above h.2⟩
theorem Free.ok {ρ ρ' : Ren} {σ σ' : SSt} {w w' : World} (h : Free ρ σ hi) (hok : Ok C ρ σ w ρ' σ' w') : Free ρ' σ' hi := by
  intro k h1 h2
  by_cases e : ρ' k = ρ k
  · rw [e]; exact h k (Nat.le_trans hok.next h1) h2
  · have := hok.only k e; omega
abbrev AlC (e : Ev (SExit × SAct × SSt)) (hi : Nat) (Q : SExit × SAct × SSt → Prop) : Prop := e.all fun r => r.2.2.next ≤ hi ∧ Q r
def PostC (C : Cx) (N : Nat) (a : SAct) (ρ : Ren) (σ : SSt) (w : World) (Q : SExit × SAct × SSt → Prop) : Exit → Act → World → Prop := fun e ra' w' =>
  ∃ se a' σ' ρ', Q (se, a', σ') ∧ e = exitR se ∧ Ok C ρ σ w ρ' σ' w' ∧ ActR C ρ' w' N a' ra' ∧ a'.ro = a.ro
def CodeOk (C : Cx) (code : CodeF) : Prop := ∀ (N : Nat) (c : Code) (sc : SCode) (a : SAct) (ra : Act) (σ : SSt) (ρ : Ren) (w : World) (ro : Option Nat) (hi : Nat) (Q : SExit × SAct × SSt → Prop),
  compCode C.P N c = some sc → WF σ → Sim C ρ σ w → ActR C ρ w N a ra → RoR ρ a.ro ro → Free ρ σ hi → AlC (code sc a σ) hi Q → wpL (FW ro) 0 C.P c (PostC C N a ρ σ w Q) ra w
/-- A function is called: it comes to a value. (One without a body takes a string first.) -/
def Called (C : Cx) (f : FuncId) (args : List Value) (w : World) (R : Value → World → Prop) : Prop :=
  ((callFunc f args.toArray).run C.P w = .ok (.enter f args.toArray) w ∧ CallsIn Fence.wide 0 C.P f args.toArray w fun e w' => ∃ rv, e = .returned rv ∧ R rv w') ∨
  ∃ s rest, args = .string s :: rest ∧ ∃ rv w', (callFunc f args.toArray).run C.P w = .ok (.value rv) w' ∧ R rv w'
def CallPost (C : Cx) (ρ : Ren) (σ : SSt) (w : World) (Q : SV × SSt → Prop) : Value → World → Prop := fun rv w' =>
  ∃ v σ' ρ', Q (v, σ') ∧ Ok C ρ σ w ρ' σ' w' ∧ VR C.P C.B (World.shp w') ρ' v rv
def CallOk (C : Cx) (call : CallF) : Prop := ∀ (f : FuncId) (args : List SV) (rargs : List Value) (σ : SSt) (ρ : Ren) (w : World) (hi : Nat) (Q : SV × SSt → Prop),
  WF σ → Sim C ρ σ w → VRs C.P C.B (World.shp w) ρ args rargs → Free ρ σ hi → Al (call f args σ) hi Q → Called C f rargs w (CallPost C ρ σ w Q)

/-! ### Guards -/
theorem wanted_sound {P : Program} {B : Nat} {sh : Shp} {ops : Array Oper} {o : Oper} {g : Option (Nat × Bool)} {tm : T SV} {tmps : Array Value} (hc : compGuard ops o.guard = some g) (hv : ∀ d b, g = some (d, b) → VR P B sh ρ (getT tm d) (tmps.getD d undef)) :
    Region.wanted o (yielded ops tmps) = wantedS tm g := by
  unfold compGuard at hc
  unfold Region.wanted
  split at hc
  · rename_i hg
    cases hc
    rw [hg]
    rfl
  · rename_i j b hg
    rw [hg]
    split at hc
    · rename_i d hd
      cases hc
      have h := hv d b rfl
      have hy : yielded ops tmps j = match tmps[d]? with
        | some (.bool b) => some b
        | _ => none := by
        simp only [yielded, hd, Option.bind_some]
        rfl
      simp only [hy, wantedS]
      generalize getT tm d = v at h
      generalize hr : tmps.getD d undef = r at h
      rw [Array.getD_eq_getD_getElem?] at hr
      have hnone : (∀ c, r ≠ .bool c) → (match tmps[d]? with
        | some (.bool b) => some b
        | _ => none : Option Bool) = none := by
        intro hnb
        cases hq : tmps[d]? with
        | none => rfl
        | some x =>
          rw [hq] at hr
          simp only [Option.getD_some] at hr
          subst hr
          cases x <;> first | rfl | exact (hnb _ rfl).elim
      cases h with
      | bool c =>
        cases hq : tmps[d]? with
        | none => rw [hq] at hr; simp [undef] at hr
        | some x =>
          rw [hq] at hr
          simp only [Option.getD_some] at hr
          subst hr
          simp
      | _ => rw [hnone (by simp)]; rfl
    · cases hc

/-! ### One operation -/
theorem compOp_call {P : Program} {o : Oper} {f : SX} {args : List SX} (h : compOp P o = some (.call f args)) :
    ∃ c g, o.op = .call c ∧ c.callee = .value g ∧ compX g = some f ∧ c.args.toList.mapM compX = some args := by
  unfold compOp at h
  split at h
  case h_30 c ho =>
    split at h
    · rename_i g as hcal has
      simp only [Option.map_eq_some_iff] at h
      obtain ⟨q, hq, hl⟩ := h
      cases hl
      exact ⟨c, g, ho, hcal, hq, has⟩
    · repeat' split at h
      all_goals (first | (cases h; done) | (simp at h; done))
    · cases h
  all_goals (repeat' split at h)
  all_goals (first | (cases h; done) | (simp at h; done))
theorem compOp_defer {P : Program} {o : Oper} {s : SOp} (h : compOp P o = some s) : ∀ c, o.op ≠ .defer c := by
  intro c e
  simp [compOp, e] at h
end
end Go.Sh
