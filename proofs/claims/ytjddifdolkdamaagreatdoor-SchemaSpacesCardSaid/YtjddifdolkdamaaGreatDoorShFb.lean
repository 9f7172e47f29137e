/-
  The shadow machine, part Fb: what the faster one answers, the machine answers.
-/
import Derived.Test.YtjddifdolkdamaaGreatDoorShFa
set_option linter.unusedSimpArgs false
set_option linter.unusedVariables false
namespace Go.Sh
theorem optF_ok {α : Type} {o : Option α} {k : α → RT} {r : SV × SSt} (h : optF o k = .ok r) : ∃ a, o = some a ∧ k a = .ok r := by
  cases o with
  | none => cases h
  | some a => exact ⟨a, rfl, h⟩
theorem evF1_ok {e : RT} {k : KV} {r : SV × SSt} (h : evF1 e k = .ok r) : ∃ v σ, e = .ok (v, σ) ∧ k v σ = .ok r := by
  cases e with
  | fail => cases h
  | ok a => exact ⟨a.1, a.2, rfl, h⟩
  | any n g => cases h
theorem onInt_eq (v : SV) (d : RT) (g : IntKind → Int → RT) : onInt v d g = match v with | .int k n => g k n | _ => d := by cases v <;> rfl
theorem onBool_eq (v : SV) (d : RT) (g : Bool → RT) : onBool v d g = match v with | .bool b => g b | _ => d := by cases v <;> rfl
theorem onInt_ok {v : SV} {g : IntKind → Int → RT} {r : SV × SSt} (h : onInt v .fail g = .ok r) : ∃ k n, v = .int k n ∧ g k n = .ok r := by
  rw [onInt_eq] at h
  split at h
  · exact ⟨_, _, rfl, h⟩
  · cases h
theorem onBool_ok {v : SV} {g : Bool → RT} {r : SV × SSt} (h : onBool v .fail g = .ok r) : ∃ b, v = .bool b ∧ g b = .ok r := by
  rw [onBool_eq] at h
  split at h
  · exact ⟨_, rfl, h⟩
  · cases h
theorem getF_eq (tm : T SV) (t : Nat) : getF tm t = getT tm t := by unfold getF getT; cases tm.get t <;> rfl
theorem evXF_eq (tm : T SV) (x : SX) : evXF tm x = evX tm x := by cases x <;> first | rfl | exact getF_eq _ _
theorem evXF_fun (tm : T SV) : evXF tm = evX tm := funext (evXF_eq tm)
theorem putF_eq (tm : T SV) (ds : List Nat) (ro : Option Nat) (dst : Option Nat) (v : SV) : SAct.put ⟨tm, ds, ro⟩ dst v = ⟨putF tm dst v, ds, ro⟩ := by cases dst <;> rfl
theorem wrapFF_eq (k : IntKind) (n : Int) : wrapFF k n = wrapF k n := by
  cases n with
  | ofNat m =>
    have h : wrapFF k (.ofNat m) = Bool.rec (wrapF k (.ofNat m)) (.ofNat m) (Nat.ble (Nat.succ m) (hiK k)) := rfl
    rw [h]
    cases hb : Nat.ble (Nat.succ m) (hiK k) with
    | false => rfl
    | true =>
      have hb' : Nat.blt m (hiK k) = true := hb
      simp only [wrapF, hb']
  | negSucc m => rfl
theorem addF_eq (a b : Int) : addF a b = Int.add a b := by cases a <;> cases b <;> rfl
theorem subF_eq (a b : Int) : subF a b = Int.sub a b := by
  cases a with
  | ofNat m => cases b with
    | ofNat n =>
      have h : subF (.ofNat m) (.ofNat n) = Bool.rec (Int.sub (.ofNat m) (.ofNat n)) (.ofNat (Nat.sub m n)) (Nat.ble n m) := rfl
      rw [h]
      cases hb : Nat.ble n m with
      | false => rfl
      | true =>
        have hle : n ≤ m := Nat.le_of_ble_eq_true hb
        show Int.ofNat (m - n) = (Int.ofNat m) - (Int.ofNat n)
        simp only [Int.ofNat_eq_natCast]
        omega
    | negSucc n => rfl
  | negSucc m => rfl
theorem eqIF_eq (a b : Int) : eqIF a b = eqI a b := by cases a <;> cases b <;> rfl
theorem ltIF_eq (a b : Int) : ltIF a b = ltI a b := by cases a <;> cases b <;> rfl
theorem notF_eq (b : Bool) : notF b = !b := by cases b <;> rfl
theorem sameF_eq (k k' : IntKind) (r : RT) : sameF k k' r = match sameK k k' with | true => r | false => .fail := by cases k <;> cases k' <;> rfl
theorem same_opt {k k' : IntKind} {v : SV} {c : SV → RT} : sameF k k' (c v) = optF (match sameK k k' with | true => some v | false => none) c := by
  rw [sameF_eq]
  cases sameK k k' <;> rfl
theorem bin2_eq (op : BinOp) (k : IntKind) (a : Int) (k' : IntKind) (b : Int) (c : SV → RT) : bin2 op k a k' b c = optF (binS op (.int k a) (.int k' b)) c := by
  cases op
  case add => show sameF k k' _ = _; rw [same_opt, wrapFF_eq, addF_eq]; rfl
  case sub => show sameF k k' _ = _; rw [same_opt, wrapFF_eq, subF_eq]; rfl
  case eql => show sameF k k' _ = _; rw [same_opt, eqIF_eq]; rfl
  case neq => show sameF k k' _ = _; rw [same_opt, eqIF_eq, notF_eq]; rfl
  case lss => show sameF k k' _ = _; rw [same_opt, ltIF_eq]; rfl
  case leq => show sameF k k' _ = _; rw [same_opt, ltIF_eq, notF_eq]; rfl
  case gtr => show sameF k k' _ = _; rw [same_opt, ltIF_eq]; rfl
  case geq => show sameF k k' _ = _; rw [same_opt, ltIF_eq, notF_eq]; rfl
  case xor =>
    cases a with
    | negSucc m => rfl
    | ofNat m => cases b with
      | negSucc n => rfl
      | ofNat n =>
        show sameF k k' (Bool.rec (fGen .xor k (.ofNat m) k' (.ofNat n) c) (c (.int k (.ofNat (Nat.xor m n)))) (and (Nat.ble (Nat.succ m) (hiK k)) (Nat.ble (Nat.succ n) (hiK k)))) = _
        rw [sameF_eq]
        have hb : binS .xor (.int k (.ofNat m)) (.int k' (.ofNat n)) = match sameK k k' with | true => iXor k (.ofNat m) (.ofNat n) | false => none := rfl
        rw [hb]
        cases hs : sameK k k' with
        | false => rfl
        | true =>
          simp only
          cases hc : and (Nat.ble (Nat.succ m) (hiK k)) (Nat.ble (Nat.succ n) (hiK k)) with
          | false =>
            show fGen .xor k (.ofNat m) k' (.ofNat n) c = _
            unfold fGen
            rw [hb, hs]
          | true =>
            have h2 : (Nat.blt m (hiK k) && Nat.blt n (hiK k)) = true := hc
            show c (.int k (.ofNat (Nat.xor m n))) = _
            unfold iXor bitsF
            simp only [h2]
            rfl
  all_goals rfl
theorem binF_ok {op : BinOp} {x y : SV} {c : SV → RT} {r : SV × SSt} (h : binF op x y c = .ok r) : ∃ v, binS op x y = some v ∧ c v = .ok r := by
  unfold binF at h
  rw [onInt_eq] at h
  split at h
  · obtain ⟨k', b, rfl, h2⟩ := onInt_ok h
    rw [bin2_eq] at h2
    exact optF_ok h2
  · exact optF_ok h
theorem locF_ok {l : LOp} {tm : T SV} {c : SV → RT} {r : SV × SSt} (h : locF l tm c = .ok r) : ∃ v, evLocal l tm = some v ∧ c v = .ok r := by
  cases l
  case mov x => exact ⟨_, rfl, by rw [← evXF_eq]; exact h⟩
  case bin op x y =>
    have h : binF op (evXF tm x) (evXF tm y) c = .ok r := h
    rw [evXF_eq, evXF_eq] at h
    exact binF_ok h
  case convInt k x =>
    have h : onInt (evXF tm x) .fail (fun _ n => c (.int k (wrapFF k n))) = .ok r := h
    rw [evXF_eq] at h
    obtain ⟨k', n, h1, h2⟩ := onInt_ok h
    rw [wrapFF_eq] at h2
    exact ⟨_, by simp only [evLocal, lConvInt, h1], h2⟩
  all_goals exact optF_ok h
section
variable {E : Env}
theorem memF_ok {m : MOp} {tm : T SV} {σ : SSt} {c : KV} {r : SV × SSt} (h : memF E m tm σ c = .ok r) : ∃ v σ1, evMem E m tm σ = .ok (v, σ1) ∧ c v σ1 = .ok r := by
  cases m
  case bad => cases h
  all_goals exact evF1_ok h

/-! ### Operations -/
def CodeFOk (E : Env) (code : CodeT) : Prop := ∀ c tm ds ro σ k r, code c tm ds ro σ k = .ok r → WC E c ⟨tm, ds, ro⟩ σ fun e a σ' => a.ro = ro ∧ k e a.tm a.defers σ' = .ok r
def CallFOk (E : Env) (call : CallT) : Prop := ∀ f args σ k r, call f args σ k = .ok r → WK E f args σ fun v σ' => k v σ' = .ok r
variable {code : CodeT} {call : CallT} (hcode : CodeFOk E code) (hcall : CallFOk E call)
include hcode in
theorem roundF_ok {l : Nat} {args : List SV} {σ : SSt} {c : KV} {r : SV × SSt} (h : roundF code l args σ c = .ok r) : Fin (fun n => evRound (evN E n).1 l args σ) fun q => c q.1 q.2 = .ok r := by
  unfold roundF at h
  split at h
  · rename_i L hL
    obtain ⟨tm, htm, h⟩ := optF_ok h
    refine Fin.congr (g := fun n => ((evN E n).1 L.assign ⟨tm, [], some l⟩ σ).bind (roundBody (evN E n).1 l L.body)) (fun n => by simp only [evRound, hL, htm]) ?_
    refine Fin.bind (f := fun n q => roundBody (evN E n).1 l L.body q) (Fin.mono (hcode _ _ _ _ _ _ _ h) fun q hq => ?_)
    obtain ⟨e, ⟨tm1, ds1, ro1⟩, σ1⟩ := q
    obtain ⟨hro, hq⟩ := hq
    simp only at hro hq
    subst hro
    split at hq
    · rename_i L1 hL1
      split at hq
      · rename_i hst
        refine Fin.congr (g := fun n => ((evN E n).1 L.body ⟨tm1, ds1, some l⟩ (σ1.put l (some (.loop { L1 with state := .busy })))).bind (roundEnd l)) (fun n => by simp only [roundBody, hL1, hst]) ?_
        refine Fin.bind (f := fun _ q => roundEnd l q) (Fin.mono (hcode _ _ _ _ _ _ _ hq) fun q2 hq2 => ?_)
        obtain ⟨e2, ⟨tm2, ds2, ro2⟩, σ2⟩ := q2
        obtain ⟨hro2, hq2⟩ := hq2
        simp only at hro2 hq2
        subst hro2
        obtain ⟨v, σ3, h1, h2⟩ := evF1_ok hq2
        exact Fin.pure (r := (v, σ3)) (fun _ => h1) h2
      · cases hq
    · cases hq
  · cases h
include hcode hcall in
theorem opF_ok {o : SOp} {tm : T SV} {σ : SSt} {c : KV} {r : SV × SSt} (h : opF E code call o tm σ c = .ok r) : WP E o tm σ fun v σ1 => c v σ1 = .ok r := by
  cases o with
  | loc l =>
    obtain ⟨v, h1, h2⟩ := locF_ok (l := l) (tm := tm) (c := fun v => c v σ) h
    exact WP.loc h1 h2
  | mem m =>
    obtain ⟨v, σ1, h1, h2⟩ := memF_ok (E := E) (m := m) h
    exact WP.mem h1 h2
  | call f args =>
    have h : callXF code call f args tm σ c = .ok r := h
    unfold callXF at h
    rw [evXF_fun] at h
    split at h
    · rename_i g cs hf
      exact WP.call hf (hcall _ _ _ _ _ h)
    · rename_i l hf
      exact Fin.congr (fun n => by simp only [evOp, oCall, hf]) (roundF_ok hcode h)
    · cases h
theorem onWant_eq (g : Option (Nat × Bool)) (tm : T SV) (a b : RT) : onWant g tm a b = match wantedS tm g with | true => a | false => b := by
  cases g with
  | none => rfl
  | some p =>
    have h : onWant (some p) tm a b = Bool.rec b a (wantedS tm (some p)) := rfl
    rw [h]
    cases wantedS tm (some p) <;> rfl
include hcode hcall in
theorem opsF_ok : ∀ (ops : List SOper) (tm : T SV) (σ : SSt) (c : T SV → SSt → RT) (r : SV × SSt) (ds : List Nat) (ro : Option Nat), opsF E code call ops tm σ c = .ok r → WO E ops ⟨tm, ds, ro⟩ σ fun a σ' => a.defers = ds ∧ a.ro = ro ∧ c a.tm σ' = .ok r := by
  intro ops
  induction ops with
  | nil => intro tm σ c r ds ro h; exact WO.nil ⟨rfl, rfl, h⟩
  | cons o os ih =>
    intro tm σ c r ds ro h
    have h : onWant o.guard tm (opF E code call o.op tm σ fun v σ1 => opsF E code call os (putF tm o.dst v) σ1 c) (opsF E code call os (putF tm o.dst undefS) σ c) = .ok r := h
    rw [onWant_eq] at h
    split at h
    · rename_i hw
      refine WO.on hw (Fin.mono (opF_ok hcode hcall h) fun q hq => ?_)
      show WO E os (SAct.put ⟨tm, ds, ro⟩ o.dst q.1) q.2 _
      rw [putF_eq]
      exact ih _ _ _ _ _ _ hq
    · rename_i hw
      refine WO.off hw ?_
      rw [putF_eq]
      exact ih _ _ _ _ _ _ h
include hcode hcall in
theorem drawF_ok : ∀ (ops : List (SOper × Nat)) (i loud : Nat) (rs : List Rc) (lk : List (Nat × Nat)) (tm : T SV) (σ : SSt) (c : T SV → SSt → RT) (r : SV × SSt) (ds : List Nat) (ro : Option Nat), drawF E code call ops i loud rs lk tm σ c = .ok r →
    WD E ops i loud rs lk ⟨tm, ds, ro⟩ σ fun a σ' => a.defers = ds ∧ a.ro = ro ∧ c a.tm σ' = .ok r := by
  intro ops
  induction ops with
  | nil => intro i loud rs lk tm σ c r ds ro h; exact Fin.pure (fun _ => rfl) ⟨rfl, rfl, h⟩
  | cons p os ih =>
    obtain ⟨o, bm⟩ := p
    intro i loud rs lk tm σ c r ds ro h
    unfold drawF at h
    split at h
    · rename_i hw
      refine Fin.congr (g := fun n => evDraw E (evN E n).1 (evN E n).2 os (i + 1) loud rs lk (SAct.put ⟨tm, ds, ro⟩ o.dst undefS) σ) (fun n => by simp only [evDraw, hw]) ?_
      rw [putF_eq]
      exact ih _ _ _ _ _ _ _ _ _ _ h
    · rename_i hw
      split at h
      · rename_i hl
        refine Fin.congr (g := fun n => (evOp E o.op (evN E n).1 (evN E n).2 tm σ).bind fun q => evDraw E (evN E n).1 (evN E n).2 os (i + 1) loud rs lk (SAct.put ⟨tm, ds, ro⟩ o.dst q.1) σ) (fun n => by simp only [evDraw, hw, hl]) ?_
        refine Fin.bind (f := fun n q => evDraw E (evN E n).1 (evN E n).2 os (i + 1) loud rs lk (SAct.put ⟨tm, ds, ro⟩ o.dst q.1) σ) (Fin.mono (opF_ok hcode hcall h) fun q hq => ?_)
        rw [putF_eq]
        exact ih _ _ _ _ _ _ _ _ _ _ hq
      · rename_i hl
        split at h
        · rename_i agg x hld
          split at h
          · rename_i v b hv
            refine Fin.congr (g := fun n => evDraw E (evN E n).1 (evN E n).2 os (i + 1) loud rs (addLook i b lk) (SAct.put ⟨tm, ds, ro⟩ o.dst v) σ) (fun n => by simp only [evDraw, hw, hl, hld, hv]) ?_
            rw [putF_eq]
            exact ih _ _ _ _ _ _ _ _ _ _ h
          · cases h
        · rename_i hld
          obtain ⟨q, N, h1, h2⟩ := opF_ok hcode hcall h
          obtain ⟨v, σ'⟩ := q
          simp only at h2
          split at h2
          · rename_i hc
            have h3 := ih _ _ _ _ _ _ _ _ ds ro h2
            obtain ⟨q2, M, h4, h5⟩ := h3
            refine ⟨q2, max N M, fun n hn => ?_, h5⟩
            have h1' := h1 n (by omega)
            have h4' := h4 n (by omega)
            simp only at h1' h4'
            unfold viewOf at h1'
            simp only [evDraw, hw, hl, hld, h1', hc]
            rw [← h4', putF_eq]
            rfl
          · cases h2
  done

/-! ### Code -/
theorem onExit_eq (e : SExit) (a : RT) (b : Nat → RT) (d : RT) : onExit e a b d = match e with | .normal => a | .exit i => b i | .ret => d := by cases e <;> rfl
include hcall in
theorem rangeGoF_ok {f : SX} {ps : List Nat} {x y : SCode} {tm : T SV} {ds0 : List Nat} {ro : Option Nat} {m : Nat} {ds : List Nat} {σ : SSt} {c : KC} {r : SV × SSt} (h : rangeGoF call f ps x y tm ds0 ro m ds σ c = .ok r) :
    Fin (fun n => rangeGo f ps x y (evN E n).2 ⟨tm, ds0, ro⟩ m ds σ) fun q => q.2.1.ro = ro ∧ c q.1 q.2.1.tm q.2.1.defers q.2.2 = .ok r := by
  unfold rangeGoF at h
  split at h
  · rename_i g cs hf
    refine Fin.congr (g := fun n => ((evN E n).2 g (.yield σ.next :: cs) (σ.alloc (.loop ⟨.ready, none, tm, ps, x, y, m⟩))).bind (rangeEnd σ.next ⟨tm, ds, ro⟩)) (fun n => by simp only [rangeGo, hf]) ?_
    refine Fin.bind (f := fun _ q => rangeEnd σ.next ⟨tm, ds, ro⟩ q) (Fin.mono (hcall _ _ _ _ _ h) fun q hq => ?_)
    obtain ⟨v, σ1⟩ := q
    simp only at hq
    split at hq
    · rename_i e a σ2 he
      refine Fin.pure (r := (e, a, σ2)) (fun _ => he) ⟨?_, hq⟩
      unfold rangeEnd at he
      split at he
      · split at he
        · cases he
        · split at he <;> (cases he; rfl)
      · cases he
    · cases hq
  · cases h
theorem loop_ok {s : SCode} {x : CT} (hx : ∀ tm ds ro σ k r, x tm ds ro σ k = .ok r → WC E s ⟨tm, ds, ro⟩ σ fun e a σ' => a.ro = ro ∧ k e a.tm a.defers σ' = .ok r) :
    ∀ (n : Nat) (tm : T SV) (ds : List Nat) (ro : Option Nat) (σ : SSt) (k : KC) (r : SV × SSt), loopF x n tm ds ro σ k = .ok r → WC E (.loop s) ⟨tm, ds, ro⟩ σ fun e a σ' => a.ro = ro ∧ k e a.tm a.defers σ' = .ok r := by
  intro n
  induction n with
  | zero => intro tm ds ro σ k r h; cases h
  | succ n ih =>
    intro tm ds ro σ k r h
    have h : x tm ds ro σ (kSeq (loopF x n) ro k) = .ok r := h
    refine WC.loop (WC.mono (hx _ _ _ _ _ _ h) fun e a σ' hq => ?_)
    obtain ⟨hro, hq⟩ := hq
    obtain ⟨tm1, ds1, ro1⟩ := a
    simp only at hro hq
    subst hro
    unfold kSeq at hq
    rw [onExit_eq] at hq
    cases e with
    | normal => exact ih _ _ _ _ _ _ hq
    | exit i => exact ⟨rfl, hq⟩
    | ret => exact ⟨rfl, hq⟩
include hcode hcall in
theorem codeF_ok (n : Nat) : CodeFOk E (codeF E n code call) := by
  intro s
  induction s with
  | skip => intro tm ds ro σ k r h; exact WC.skip ⟨rfl, h⟩
  | region ops =>
    intro tm ds ro σ k r h
    refine WC.region (WO.mono (opsF_ok hcode hcall ops tm σ _ r ds ro h) fun a σ' hq => ?_)
    obtain ⟨h1, h2, h3⟩ := hq
    exact ⟨h2, by rw [h1]; exact h3⟩
  | draw ops =>
    intro tm ds ro σ k r h
    refine WC.draw (Fin.mono (drawF_ok hcode hcall ops 0 0 [] [] tm σ _ r ds ro h) fun q hq => ?_)
    obtain ⟨h1, h2, h3⟩ := hq
    exact ⟨h2, by rw [h1]; exact h3⟩
  | seq x y ihx ihy =>
    intro tm ds ro σ k r h
    have h : codeF E n code call x tm ds ro σ (kSeq (codeF E n code call y) ro k) = .ok r := h
    refine WC.seq (WC.mono (ihx _ _ _ _ _ _ h) fun e a σ' hq => ?_)
    obtain ⟨hro, hq⟩ := hq
    obtain ⟨tm1, ds1, ro1⟩ := a
    simp only at hro hq
    subst hro
    unfold kSeq at hq
    rw [onExit_eq] at hq
    cases e with
    | normal => exact ihy _ _ _ _ _ _ hq
    | exit i => exact ⟨rfl, hq⟩
    | ret => exact ⟨rfl, hq⟩
  | cond q x y ihx ihy =>
    intro tm ds ro σ k r h
    have h : onBool (evXF tm q) .fail (fun b => Bool.rec (motive := fun _ => RT) (codeF E n code call y tm ds ro σ k) (codeF E n code call x tm ds ro σ k) b) = .ok r := h
    rw [evXF_eq] at h
    obtain ⟨b, hb, h⟩ := onBool_ok h
    refine WC.cond hb (fun e => ?_) (fun e => ?_)
    · subst e; exact ihx _ _ _ _ _ _ h
    · subst e; exact ihy _ _ _ _ _ _ h
  | block id x ih =>
    intro tm ds ro σ k r h
    have h : codeF E n code call x tm ds ro σ (kBlock id k) = .ok r := h
    refine WC.block (WC.mono (ih _ _ _ _ _ _ h) fun e a σ' hq => ?_)
    obtain ⟨hro, hq⟩ := hq
    unfold kBlock at hq
    rw [onExit_eq] at hq
    cases e with
    | normal => exact ⟨hro, hq⟩
    | ret => exact ⟨hro, hq⟩
    | exit i =>
      simp only [Blk]
      simp only at hq
      split
      · rename_i e; subst e; rw [Nat.beq_refl] at hq; exact ⟨hro, hq⟩
      · rename_i e; rw [beqF e] at hq; exact ⟨hro, hq⟩
  | loop x ih => intro tm ds ro σ k r h; exact loop_ok ih n tm ds ro σ k r h
  | rangeFunc f ps x y _ _ =>
    intro tm ds ro σ k r h
    have h : rangeF call f ps x y tm ds ro σ k = .ok r := h
    refine WC.of ?_
    unfold rangeF at h
    cases ro with
    | none => exact Fin.congr (fun n => rfl) (rangeGoF_ok (E := E) hcall h)
    | some l =>
      simp only at h
      split at h
      · rename_i L hL
        exact Fin.congr (g := fun n => rangeGo f ps x y (evN E n).2 ⟨tm, ds, some l⟩ L.defers ds σ) (fun n => by simp only [evCode, evRange, hL]) (rangeGoF_ok (E := E) hcall h)
      · cases h
  | exit id => intro tm ds ro σ k r h; exact WC.exit ⟨rfl, h⟩
  | scope x ih => intro tm ds ro σ k r h; exact WC.scope (ih _ _ _ _ _ _ h)
  | ret => intro tm ds ro σ k r h; exact WC.ret ⟨rfl, h⟩
  | bad => intro tm ds ro σ k r h; cases h
include hcode in
theorem callF_ok : CallFOk E (callF E code) := by
  intro f args σ k r h
  unfold callF at h
  split at h
  · rename_i g hg
    obtain ⟨v, σ1, h1, h2⟩ := evF1_ok h
    exact WK.spec hg h1 h2
  · rename_i hg
    split at h
    · rename_i x hx
      obtain ⟨v, h1, h2⟩ := optF_ok h
      refine Fin.shift (g := fun n => evCall E (evN E n).1 f args σ) (fun _ => rfl) ?_
      exact Fin.pure (r := (v, σ)) (fun n => by simp only [evCall, hg, hx, h1]) h2
    · rename_i n rs s hx
      refine WK.code hg hx (WC.mono (hcode _ _ _ _ _ _ _ h) fun e a σ' hq => ?_)
      obtain ⟨_, hq⟩ := hq
      unfold leaveF at hq
      rw [onExit_eq] at hq
      cases e with
      | exit i => cases hq
      | normal =>
        obtain ⟨σ2, h1, h2⟩ := optF_ok hq
        obtain ⟨v, h3, h4⟩ := optF_ok h2
        exact ⟨σ2, v, h1, h3, h4⟩
      | ret =>
        obtain ⟨σ2, h1, h2⟩ := optF_ok hq
        obtain ⟨v, h3, h4⟩ := optF_ok h2
        exact ⟨σ2, v, h1, h3, h4⟩
    · cases h
theorem evF_ok (n : Nat) : CodeFOk E (evF E n).1 ∧ CallFOk E (evF E n).2 := by
  induction n with
  | zero => exact ⟨fun _ _ _ _ _ _ _ h => (by cases h), fun _ _ _ _ _ h => (by cases h)⟩
  | succ n ih => exact ⟨codeF_ok ih.1 ih.2 n, callF_ok ih.1⟩
/-- The faster one's answer is the machine's. -/
theorem ansF_ok {n : Nat} {f : FuncId} {args : List SV} {v : SV} (h : ansF E n f args = some v) : ∃ N, fstOf ((evN E N).2 f args σ0) = some v := by
  unfold ansF at h
  cases hr : (evF E n).2 f args σ0 fun v σ => .ok (v, σ) with
  | fail => rw [hr] at h; cases h
  | any n k => rw [hr] at h; cases h
  | ok r =>
    rw [hr] at h
    simp only [fstOf, Option.some.injEq] at h
    obtain ⟨q, N, h1, h2⟩ := (evF_ok n).2 _ _ _ _ _ hr
    simp only [Ev.ok.injEq] at h2
    refine ⟨N, ?_⟩
    have h3 := h1 N (Nat.le_refl _)
    simp only at h3
    rw [h3]
    simp only [fstOf, Option.some.injEq]
    rw [← h, ← h2]
end
/-- A law that answers true, by the faster one. -/
theorem true_of_ans {P : Program} {E : Env} {w : World} (hfn : FuncsOk ⟨P, E, w.heap.size⟩) (hsp : SpecOk ⟨P, E, w.heap.size⟩) (hss : SpecStp E) (hbase : ∀ b o v, E.base b o = some v → b < w.heap.size ∧ ∃ r, w.cell? ⟨b, o, none⟩ = some r ∧ VR P w.heap.size (World.shp w) (fun _ => none) v r)
    {n : Nat} {f : FuncId} {args : List SV} {rargs : List Value} (hargs : VRs P w.heap.size (World.shp w) (fun _ => none) args rargs) {fn : Func} (hf : P.funcs[f]? = some fn) (hb : fn.body.isSome = true) (hname : fn.name ≠ "runtime.NumGoroutine")
    (he : ansF E n f args = some (.bool true)) : Calls P f rargs.toArray w fun e w' => e = .returned (.bool true) ∧ Go.RowKit.Below w.heap.size w w' := by
  obtain ⟨N, hN⟩ := ansF_ok he
  exact true_of_shadow hfn hsp hss hbase hargs hf hb hname (al_of_fst hN)
end Go.Sh
