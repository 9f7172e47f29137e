/-
  The shadow machine, part X: the functions of a program, one by one.
-/
import Derived.Test.YthfijonopinghaaGreatDoorShW
import Derived.KernelRfl
set_option linter.unusedSimpArgs false
set_option linter.unusedVariables false
namespace Go.Sh
noncomputable section
def T.ofL {α : Type} (l : List (Nat × α)) : T α := l.foldl (fun t p => t.set p.1 (some p.2)) .e
end
theorem T.get_ofL {α : Type} (l : List (Nat × α)) {k : Nat} {v : α} (h : (T.ofL l).get k = some v) : (k, v) ∈ l := by
  have key : ∀ (l : List (Nat × α)) (t : T α), (l.foldl (fun t p => t.set p.1 (some p.2)) t).get k = some v → (k, v) ∈ l ∨ t.get k = some v := by
    intro l
    induction l with
    | nil => intro t h; exact .inr h
    | cons p l ih =>
      intro t h
      rcases ih _ h with h1 | h1
      · exact .inl (List.mem_cons_of_mem _ h1)
      · rw [T.get_set] at h1
        split at h1
        · rename_i hk
          cases h1
          subst hk
          exact .inl List.mem_cons_self
        · exact .inr h1
  rcases key l .e h with h1 | h1
  · exact h1
  · cases h1
/-- What a function of the program is. -/
def FnOk (P : Program) (k : Nat) (b : SBody) : Prop := (∃ fn, P.funcs[k]? = some fn ∧ compFunc P fn = some b) ∧
  (b = .ext .indexByte → ∃ fn, P.funcs[k]? = some fn ∧ (fn.name == "runtime.NumGoroutine") = false ∧ fn.body = none ∧ Extern.findNext fn = none ∧ Extern.find fn = some Extern.BytealgIndexByte.indexByte)
theorem FnOk.of {P : Program} {k n : Nat} {rs : List SRes} {c : SCode} {fn : Func} (h1 : P.funcs[k]? = some fn) (h2 : compFunc P fn = some (.code n rs c)) : FnOk P k (.code n rs c) :=
  ⟨⟨fn, h1, h2⟩, fun e => by cases e⟩
theorem FnOk.ofExt {P : Program} {k : Nat} {fn : Func} (h1 : P.funcs[k]? = some fn) (h2 : compFunc P fn = some (.ext .indexByte)) (h3 : (fn.name == "runtime.NumGoroutine") = false) (h4 : fn.body = none) (h5 : Extern.findNext fn = none) (h6 : Extern.find fn = some Extern.BytealgIndexByte.indexByte) : FnOk P k (.ext .indexByte) :=
  ⟨⟨fn, h1, h2⟩, fun _ => ⟨fn, h1, h3, h4, h5, h6⟩⟩
theorem memNil {α : Type} {p : α → Prop} : ∀ x ∈ ([] : List α), p x := fun x h => by cases h
theorem memCons {α : Type} {p : α → Prop} {a : α} {l : List α} (h : p a) (t : ∀ x ∈ l, p x) : ∀ x ∈ a :: l, p x := fun x hx => by
  rcases List.mem_cons.1 hx with rfl | hx
  · exact h
  · exact t x hx
theorem funcsOk_of {P : Program} {E : Env} {B : Nat} {l : List (Nat × SBody)} (he : E.funcs = T.ofL l) (h : ∀ p ∈ l, FnOk P p.1 p.2) : FuncsOk ⟨P, E, B⟩ where
  code := fun f n rs c hf => by
    simp only at hf
    rw [he] at hf
    exact (h _ (T.get_ofL l hf)).1
  ext := fun f hf s c w => by
    simp only at hf
    rw [he] at hf
    obtain ⟨fn, h1, h2, h3, h4, h5⟩ := (h _ (T.get_ofL l hf)).2 rfl
    simp [callFunc, Sem.run_bind, h1, h3, h4, h5, run_indexByte_string]
    simpa using h2
/-- The answer's value, if there is but one way. -/
def fstOf : Ev (SV × SSt) → Option SV
  | .ok r => some r.1
  | _ => none
def nxtOf : Ev (SV × SSt) → Nat
  | .ok r => r.2.next
  | _ => 0
theorem al_of_fst {e : Ev (SV × SSt)} {v : SV} (h : fstOf e = some v) : Al e (nxtOf e) fun r => r.1 = v := by
  cases e with
  | ok r =>
    simp only [fstOf, Option.some.injEq] at h
    exact ⟨Nat.le_refl _, h⟩
  | fail => cases h
  | any n k => cases h
end Go.Sh
