/-
  The shadow machine, part Z: what a run comes to, whatever fuel there is beyond some: rules by which code is walked.
-/
import Derived.Test.YthfijonopinghaaGreatDoorShY
set_option linter.unusedSimpArgs false
set_option linter.unusedVariables false
namespace Go.Sh
/-- It comes to an answer, the same with whatever more fuel, and of it Q holds. -/
def Fin {β : Type} (g : Nat → Ev β) (Q : β → Prop) : Prop := ∃ r N, (∀ n, N ≤ n → g n = .ok r) ∧ Q r
section
variable {β γ : Type} {g : Nat → Ev β} {Q Q' : β → Prop}
theorem Fin.mono (h : Fin g Q) (hq : ∀ r, Q r → Q' r) : Fin g Q' := by
  obtain ⟨r, N, h1, h2⟩ := h
  exact ⟨r, N, h1, hq r h2⟩
theorem Fin.pure {r : β} (h : ∀ n, g n = .ok r) (hq : Q r) : Fin g Q := ⟨r, 0, fun n _ => h n, hq⟩
theorem Fin.bind {f : Nat → β → Ev γ} {R : γ → Prop} (h : Fin g fun r => Fin (fun n => f n r) R) : Fin (fun n => (g n).bind (f n)) R := by
  obtain ⟨r, N, h1, s, M, h2, h3⟩ := h
  refine ⟨s, max N M, fun n hn => ?_, h3⟩
  show (g n).bind (f n) = _
  rw [h1 n (by omega)]
  exact h2 n (by omega)
theorem Fin.shift {k : Nat → Ev β} (hk : ∀ n, k (n + 1) = g n) (h : Fin g Q) : Fin k Q := by
  obtain ⟨r, N, h1, h2⟩ := h
  refine ⟨r, N + 1, fun n hn => ?_, h2⟩
  obtain ⟨m, rfl⟩ : ∃ m, n = m + 1 := ⟨n - 1, by omega⟩
  rw [hk]
  exact h1 m (by omega)
theorem Fin.congr {k : Nat → Ev β} (hk : ∀ n, k n = g n) (h : Fin g Q) : Fin k Q := by
  obtain ⟨r, N, h1, h2⟩ := h
  exact ⟨r, N, fun n hn => by rw [hk]; exact h1 n hn, h2⟩
end
section
variable (E : Env)
abbrev PostE := SExit → SAct → SSt → Prop
def WC (c : SCode) (a : SAct) (σ : SSt) (Q : PostE) : Prop := Fin (fun n => (evN E n).1 c a σ) fun r => Q r.1 r.2.1 r.2.2
def WK (f : FuncId) (args : List SV) (σ : SSt) (Q : SV → SSt → Prop) : Prop := Fin (fun n => (evN E n).2 f args σ) fun r => Q r.1 r.2
def WO (ops : List SOper) (a : SAct) (σ : SSt) (Q : SAct → SSt → Prop) : Prop := Fin (fun n => evOps E (evN E n).1 (evN E n).2 ops a σ) fun r => Q r.1 r.2
def WD (ops : List (SOper × Nat)) (i loud : Nat) (rs : List Rc) (lk : List (Nat × Nat)) (a : SAct) (σ : SSt) (Q : SAct → SSt → Prop) : Prop := Fin (fun n => evDraw E (evN E n).1 (evN E n).2 ops i loud rs lk a σ) fun r => Q r.1 r.2
def WP (o : SOp) (tm : T SV) (σ : SSt) (Q : SV → SSt → Prop) : Prop := Fin (fun n => evOp E o (evN E n).1 (evN E n).2 tm σ) fun r => Q r.1 r.2
variable {E}
theorem evN_succ1 (n : Nat) : (evN E (n + 1)).1 = fun c => evCode E c (evN E n).1 (evN E n).2 := rfl
theorem evN_succ2 (n : Nat) : (evN E (n + 1)).2 = evCall E (evN E n).1 := rfl
theorem WC.of {c : SCode} {a : SAct} {σ : SSt} {Q : PostE} (h : Fin (fun n => evCode E c (evN E n).1 (evN E n).2 a σ) fun r => Q r.1 r.2.1 r.2.2) : WC E c a σ Q := Fin.shift (fun _ => rfl) h
theorem WC.mono {c : SCode} {a : SAct} {σ : SSt} {Q Q' : PostE} (h : WC E c a σ Q) (hq : ∀ e a σ, Q e a σ → Q' e a σ) : WC E c a σ Q' := Fin.mono h fun _ h => hq _ _ _ h
theorem WK.mono {f : FuncId} {args : List SV} {σ : SSt} {Q Q' : SV → SSt → Prop} (h : WK E f args σ Q) (hq : ∀ v σ, Q v σ → Q' v σ) : WK E f args σ Q' := Fin.mono h fun _ h => hq _ _ h
theorem WO.mono {ops : List SOper} {a : SAct} {σ : SSt} {Q Q' : SAct → SSt → Prop} (h : WO E ops a σ Q) (hq : ∀ a σ, Q a σ → Q' a σ) : WO E ops a σ Q' := Fin.mono h fun _ h => hq _ _ h

/-! ### Code -/
section code
variable {a : SAct} {σ : SSt} {Q : PostE}
theorem WC.skip (h : Q .normal a σ) : WC E .skip a σ Q := WC.of (Fin.pure (fun _ => rfl) h)
theorem WC.exit {id : Nat} (h : Q (.exit id) a σ) : WC E (.exit id) a σ Q := WC.of (Fin.pure (fun _ => rfl) h)
theorem WC.ret (h : Q .ret a σ) : WC E .ret a σ Q := WC.of (Fin.pure (fun _ => rfl) h)
theorem WC.region {ops : List SOper} (h : WO E ops a σ fun a σ => Q .normal a σ) : WC E (.region ops) a σ Q := by
  refine WC.of ?_
  exact Fin.bind (f := fun _ (r : SAct × SSt) => Ev.ok (SExit.normal, r.1, r.2)) (Fin.mono h fun r hr => Fin.pure (fun _ => rfl) hr)
theorem WC.draw {ops : List (SOper × Nat)} (h : WD E ops 0 0 [] [] a σ fun a σ => Q .normal a σ) : WC E (.draw ops) a σ Q := by
  refine WC.of ?_
  exact Fin.bind (f := fun _ (r : SAct × SSt) => Ev.ok (SExit.normal, r.1, r.2)) (Fin.mono h fun r hr => Fin.pure (fun _ => rfl) hr)
/-- What comes behind. -/
def Thn (E : Env) (y : SCode) (Q : PostE) : PostE := fun e a σ => match e with
  | .normal => WC E y a σ Q
  | e => Q e a σ
theorem WC.seq {x y : SCode} (h : WC E x a σ (Thn E y Q)) : WC E (.seq x y) a σ Q := by
  refine WC.of ?_
  refine Fin.bind (f := fun n (r : SExit × SAct × SSt) => match r.1 with
    | .normal => (evN E n).1 y r.2.1 r.2.2
    | e => Ev.ok (e, r.2.1, r.2.2)) (Fin.mono h fun r hr => ?_)
  obtain ⟨e, a1, σ1⟩ := r
  cases e with
  | normal => exact hr
  | exit id => exact Fin.pure (fun _ => rfl) hr
  | ret => exact Fin.pure (fun _ => rfl) hr
theorem WC.cond {x : SX} {c d : SCode} {b : Bool} (hx : evX a.tm x = .bool b) (h1 : b = true → WC E c a σ Q) (h2 : b = false → WC E d a σ Q) : WC E (.cond x c d) a σ Q := by
  refine WC.of ?_
  cases b with
  | true => exact Fin.congr (fun n => by simp only [evCode, cCond, hx]) (h1 rfl)
  | false => exact Fin.congr (fun n => by simp only [evCode, cCond, hx]) (h2 rfl)
/-- A block's end. -/
def Blk (id : Nat) (Q : PostE) : PostE := fun e a σ => match e with
  | .exit i => if i = id then Q .normal a σ else Q (.exit i) a σ
  | e => Q e a σ
theorem WC.block {id : Nat} {c : SCode} (h : WC E c a σ (Blk id Q)) : WC E (.block id c) a σ Q := by
  refine WC.of ?_
  refine Fin.bind (f := fun _ (r : SExit × SAct × SSt) => match r.1 with
    | .exit i => Ev.ok (match Nat.beq i id with | true => SExit.normal | false => .exit i, r.2.1, r.2.2)
    | e => Ev.ok (e, r.2.1, r.2.2)) (Fin.mono h fun r hr => ?_)
  obtain ⟨e, a1, σ1⟩ := r
  cases e with
  | normal => exact Fin.pure (fun _ => rfl) hr
  | ret => exact Fin.pure (fun _ => rfl) hr
  | exit i =>
    simp only [Blk] at hr
    split at hr
    · rename_i hi
      exact Fin.pure (r := (SExit.normal, a1, σ1)) (fun _ => by simp only [beqT hi]) hr
    · rename_i hi
      exact Fin.pure (r := (SExit.exit i, a1, σ1)) (fun _ => by simp only [beqF hi]) hr
theorem WC.loop {c : SCode} (h : WC E c a σ (Thn E (.loop c) Q)) : WC E (.loop c) a σ Q := by
  refine WC.of ?_
  refine Fin.bind (f := fun n (r : SExit × SAct × SSt) => match r.1 with
    | .normal => (evN E n).1 (.loop c) r.2.1 r.2.2
    | e => Ev.ok (e, r.2.1, r.2.2)) (Fin.mono h fun r hr => ?_)
  obtain ⟨e, a1, σ1⟩ := r
  cases e with
  | normal => exact hr
  | exit id => exact Fin.pure (fun _ => rfl) hr
  | ret => exact Fin.pure (fun _ => rfl) hr
theorem WC.scope {c : SCode} (h : WC E c a σ Q) : WC E (.scope c) a σ Q := WC.of h
end code

/-! ### Operations -/
section ops
variable {a : SAct} {σ : SSt} {Q : SAct → SSt → Prop}
theorem WO.nil (h : Q a σ) : WO E [] a σ Q := Fin.pure (fun _ => rfl) h
theorem WO.off {o : SOper} {os : List SOper} (hw : wantedS a.tm o.guard = false) (h : WO E os (a.put o.dst undefS) σ Q) : WO E (o :: os) a σ Q :=
  Fin.congr (fun n => by rw [evOps_cons, hw]) h
theorem WO.on {o : SOper} {os : List SOper} (hw : wantedS a.tm o.guard = true) (h : WP E o.op a.tm σ fun v σ1 => WO E os (a.put o.dst v) σ1 Q) : WO E (o :: os) a σ Q := by
  refine Fin.congr (fun n => by rw [evOps_cons, hw]) ?_
  exact Fin.bind (f := fun n (r : SV × SSt) => evOps E (evN E n).1 (evN E n).2 os (a.put o.dst r.1) r.2) (Fin.mono h fun r hr => hr)
theorem WP.loc {l : LOp} {tm : T SV} {v : SV} {R : SV → SSt → Prop} (hv : evLocal l tm = some v) (h : R v σ) : WP E (.loc l) tm σ R :=
  Fin.pure (r := (v, σ)) (fun n => by simp only [evOp, oLoc, hv]) h
theorem WP.mem {m : MOp} {tm : T SV} {v : SV} {σ1 : SSt} {R : SV → SSt → Prop} (hv : evMem E m tm σ = .ok (v, σ1)) (h : R v σ1) : WP E (.mem m) tm σ R :=
  Fin.pure (r := (v, σ1)) (fun n => by simp only [evOp, oMem, hv]) h
theorem WP.call {f : SX} {args : List SX} {tm : T SV} {g : FuncId} {cs : List SV} {R : SV → SSt → Prop} (hf : evX tm f = .func g cs) (h : WK E g (args.map (evX tm) ++ cs) σ R) : WP E (.call f args) tm σ R :=
  Fin.congr (fun n => by simp only [evOp, oCall, hf]) h
end ops

/-! ### Calls -/
section calls
variable {f : FuncId} {args : List SV} {σ : SSt} {Q : SV → SSt → Prop}
/-- The end of a function's code. -/
def Lv (E : Env) (rs : List SRes) (Q : SV → SSt → Prop) : PostE := fun e a σ => match e with
  | .exit _ => False
  | _ => ∃ σ1 v, takeMarks a.defers σ = some σ1 ∧ evRess E a.tm σ1 rs = some v ∧ Q v σ1
theorem WK.code {n : Nat} {rs : List SRes} {c : SCode} (hs : E.spec f = none) (hf : E.funcs.get f = some (.code n rs c)) (h : WC E c ⟨T.e.putList 0 args, [], none⟩ σ (Lv E rs Q)) : WK E f args σ Q := by
  refine Fin.shift (g := fun n => evCall E (evN E n).1 f args σ) (fun _ => rfl) ?_
  refine Fin.congr (g := fun n => ((evN E n).1 c ⟨T.e.putList 0 args, [], none⟩ σ).bind (callEnd E rs)) (fun n => by simp only [evCall, hs, hf]) ?_
  refine Fin.bind (f := fun _ r => callEnd E rs r) (Fin.mono h fun r hr => ?_)
  obtain ⟨e, a1, σ1⟩ := r
  have key : (∃ σ2 v, takeMarks a1.defers σ1 = some σ2 ∧ evRess E a1.tm σ2 rs = some v ∧ Q v σ2) → Fin (fun _ => callLeave E rs a1.tm (takeMarks a1.defers σ1)) fun r => Q r.1 r.2 := by
    rintro ⟨σ2, v, h1, h2, h3⟩
    exact Fin.pure (r := (v, σ2)) (fun _ => by simp only [h1, callLeave, h2]) h3
  cases e with
  | exit id => exact hr.elim
  | normal => exact key hr
  | ret => exact key hr
theorem WK.spec {s : List SV → SSt → Ev (SV × SSt)} {v : SV} {σ1 : SSt} (hs : E.spec f = some s) (hv : s args σ = .ok (v, σ1)) (h : Q v σ1) : WK E f args σ Q := by
  refine Fin.shift (g := fun n => evCall E (evN E n).1 f args σ) (fun _ => rfl) ?_
  exact Fin.pure (r := (v, σ1)) (fun n => by simp only [evCall, hs, hv]) h
end calls
end
end Go.Sh
