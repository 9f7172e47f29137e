/-
  The shadow machine, part E: operations without memory: what the evaluator answers, the model's operation hands back, in the same world.
-/
import Derived.Test.YthfijonopinghaaGreatDoorShD
import Derived.Laws.Entries
import Derived.Laws.Slices
import Derived.Laws.StructEq
import Derived.WideLaws
set_option linter.unusedSimpArgs false
set_option linter.unusedVariables false
namespace Go.Sh
section
variable {P : Program} {B : Nat} {sh : Shp} {ρ : Ren}

theorem sameK_eq {k k' : IntKind} (h : sameK k k' = true) : k = k' := by
  cases k <;> cases k' <;> first | rfl | cases h
theorem sameK_refl (k : IntKind) : sameK k k = true := by cases k <;> rfl
theorem vr_int {k : IntKind} {n : Int} {r : Value} (h : VR P B sh ρ (.int k n) r) : r = .int k n := by cases h; rfl
theorem vr_bool {b : Bool} {r : Value} (h : VR P B sh ρ (.bool b) r) : r = .bool b := by cases h; rfl
theorem vr_str {s : Str} {r : Value} (h : VR P B sh ρ (.str s) r) : ∃ bs, s = Str.of bs ∧ r = .string bs := by cases h; exact ⟨_, rfl, rfl⟩
theorem vr_ptr {a : SA} {r : Value} (h : VR P B sh ρ (.ptr (some a)) r) : ∃ x, r = .pointer (some x) ∧ AR ρ a x := by cases h; exact ⟨_, rfl, ‹_›⟩
theorem vr_agg {cs : List SV} {r : Value} (h : VR P B sh ρ (.agg cs) r) : ∃ rs : List Value, r = .agg rs.toArray ∧ VRs P B sh ρ cs rs := by cases h; exact ⟨_, rfl, ‹_›⟩
theorem vr_tuple {cs : List SV} {r : Value} (h : VR P B sh ρ (.tuple cs) r) : ∃ rs : List Value, r = .tuple rs.toArray ∧ VRs P B sh ρ cs rs := by cases h; exact ⟨_, rfl, ‹_›⟩
theorem AR.add {a : SA} {r : Addr} (h : AR ρ a r) (n : Nat) : AR ρ (a.add n) (r.add n) := by
  obtain ⟨h1, h2⟩ := h
  have h3 : r.add n = ⟨r.block, r.off + n, none⟩ := by
    unfold Addr.add
    split
    · rename_i h0; subst h0; cases r; simp_all
    · rfl
  rw [h3]
  refine ⟨rfl, ?_⟩
  cases hb : a.base with
  | true => simp only [hb, SA.add] at h2 ⊢; exact ⟨h2.1, by rw [h2.2]⟩
  | false =>
    simp only [hb, SA.add] at h2 ⊢
    obtain ⟨o, h4, h5⟩ := h2
    exact ⟨o, h4, by rw [h5]; omega⟩

theorem shiftS_sound {op : BinOp} {l : Bool} (hl : (op = .shl ∧ l = true) ∨ (op = .shr ∧ l = false)) {k yk : IntKind} {x y : Int} {v : SV} (h : shiftS l k x y = some v) (w : World) :
    ∃ rv, (Op.shift op k x yk y).run P w = .ok rv w ∧ VR P B sh ρ v rv := by
  unfold shiftS at h
  cases y with
  | negSucc m => cases h
  | ofNat m =>
    have hn : (match Nat.ble m (bitsK k) with | true => m | false => bitsK k) = min (Int.ofNat m).toNat k.bits := by
      rw [bitsK_eq]
      simp only [Int.ofNat_eq_natCast, Int.toNat_natCast]
      by_cases hm : m ≤ k.bits
      · rw [Str.bleT hm]; simp only; omega
      · rw [Str.bleF hm]; simp only; omega
    have hy : ¬ (Int.ofNat m < 0) := by simp
    rcases hl with ⟨rfl, rfl⟩ | ⟨rfl, rfl⟩
    · have h' : some (SV.int k (shlF k x (min (Int.ofNat m).toNat k.bits))) = some v := by rw [← hn]; exact h
      cases h'
      rw [shlF_eq]
      exact ⟨_, by simp only [Op.shift, if_neg hy]; rfl, .int _ _⟩
    · have h' : some (SV.int k (shrF x (min (Int.ofNat m).toNat k.bits))) = some v := by rw [← hn]; exact h
      cases h'
      rw [shrF_eq]
      exact ⟨_, by simp only [Op.shift, if_neg hy]; rfl, .int _ _⟩

theorem bInt_sound {op : BinOp} {t : TypeId} {k k' : IntKind} {x y : Int} {v : SV} (h : bInt op k x k' y = some v) (h1 : op ≠ .shl) (h2 : op ≠ .shr) (w : World) :
    ∃ rv, (binOp op t (.int k x) (.int k' y)).run P w = .ok rv w ∧ VR P B sh ρ v rv := by
  unfold bInt at h
  cases hs : sameK k k' with
  | false => rw [hs] at h; cases h
  | true =>
    rw [hs] at h
    obtain rfl := sameK_eq hs
    simp only at h
    cases op <;> first | exact absurd rfl h1 | exact absurd rfl h2 | skip
    all_goals simp only [intOp, iAdd, iSub, iMul, iQuo, iRem, iAnd, iOr, iXor, iAndNot, iEql, iNeq, iLss, iLeq, iGtr, iGeq] at h
    case add => cases h; exact ⟨_, by simp only [binOp, ne_eq, not_true_eq_false, if_false, Op.intArith, Op.intBits, Op.intCmp]; rfl, by rw [wrapF_eq]; exact .int _ _⟩
    case sub => cases h; exact ⟨_, by simp only [binOp, ne_eq, not_true_eq_false, if_false, Op.intArith, Op.intBits, Op.intCmp]; rfl, by rw [wrapF_eq]; exact .int _ _⟩
    case mul => cases h; exact ⟨_, by simp only [binOp, ne_eq, not_true_eq_false, if_false, Op.intArith, Op.intBits, Op.intCmp]; rfl, by rw [wrapF_eq]; exact .int _ _⟩
    case quo =>
      rw [eqI_eq] at h
      by_cases hy : y = 0
      · simp [hy] at h
      · have : (y == 0) = false := by simpa using hy
        rw [this] at h
        cases h
        refine ⟨_, ?_, by rw [wrapF_eq]; exact .int _ _⟩
        simp [binOp, Op.intDiv, hy]
    case rem =>
      rw [eqI_eq] at h
      by_cases hy : y = 0
      · simp [hy] at h
      · have : (y == 0) = false := by simpa using hy
        rw [this] at h
        cases h
        refine ⟨_, ?_, .int _ _⟩
        simp [binOp, Op.intDiv, hy]
    case and => cases h; exact ⟨_, by simp only [binOp, ne_eq, not_true_eq_false, if_false, Op.intArith, Op.intBits, Op.intCmp]; rfl, by rw [bitsF_and]; exact .int _ _⟩
    case or => cases h; exact ⟨_, by simp only [binOp, ne_eq, not_true_eq_false, if_false, Op.intArith, Op.intBits, Op.intCmp]; rfl, by rw [bitsF_or]; exact .int _ _⟩
    case xor => cases h; exact ⟨_, by simp only [binOp, ne_eq, not_true_eq_false, if_false, Op.intArith, Op.intBits, Op.intCmp]; rfl, by rw [bitsF_xor]; exact .int _ _⟩
    case andNot => cases h; exact ⟨_, by simp only [binOp, ne_eq, not_true_eq_false, if_false, Op.intArith, Op.intBits, Op.intCmp]; rfl, .int _ _⟩
    case eql => cases h; exact ⟨_, by simp only [binOp, ne_eq, not_true_eq_false, if_false, Op.intArith, Op.intBits, Op.intCmp]; rfl, by rw [eqI_eq]; exact .bool _⟩
    case neq => cases h; exact ⟨.bool (x != y), by simp [binOp, Op.intCmp], by rw [eqI_eq]; exact .bool _⟩
    case lss => cases h; exact ⟨_, by simp only [binOp, ne_eq, not_true_eq_false, if_false, Op.intArith, Op.intBits, Op.intCmp]; rfl, by rw [ltI_eq]; exact .bool _⟩
    case leq => cases h; exact ⟨.bool (decide (x ≤ y)), by simp [binOp, Op.intCmp], by rw [ltI_eq]; have : (!decide (y < x)) = decide (x ≤ y) := by rw [← decide_not]; congr 1; simp
                                                                                       rw [this]; exact .bool _⟩
    case gtr => cases h; exact ⟨.bool (decide (x > y)), by simp [binOp, Op.intCmp], by rw [ltI_eq]; exact .bool _⟩
    case geq => cases h; exact ⟨.bool (decide (x ≥ y)), by simp [binOp, Op.intCmp], by rw [ltI_eq]; have : (!decide (x < y)) = decide (x ≥ y) := by rw [← decide_not]; congr 1; simp
                                                                                       rw [this]; exact .bool _⟩

theorem strOp_sound {op : BinOp} {x y : ByteArray} {v : SV} (h : strOp op (Str.of x) (Str.of y) = some v) (w : World) :
    ∃ rv, (Op.stringOp op x y).run P w = .ok rv w ∧ VR P B sh ρ v rv := by
  cases op <;> simp only [strOp] at h <;> try (cases h; done)
  case add =>
    rw [Str.of_len, Str.of_len] at h
    split at h
    · rename_i hlt
      cases h
      have : ¬ (((x.size + y.size : Nat) : Int) > IntKind.i64.max) := by
        have : IntKind.i64.max = 9223372036854775807 := by decide
        rw [this]; omega
      refine ⟨.string (x ++ y), ?_, by rw [← Str.of_append]; exact .str _⟩
      simp [Op.stringOp, if_neg this]
      omega
    · cases h
  case eql => cases h; exact ⟨_, rfl, by rw [Str.eq_of]; exact .bool _⟩
  case neq => cases h; exact ⟨_, rfl, by rw [Str.eq_of]; exact .bool _⟩
  case lss => cases h; exact ⟨_, rfl, by rw [Str.lt_of]; exact .bool _⟩
  case leq => cases h; exact ⟨_, rfl, by rw [Str.eq_of, Str.lt_of]; exact .bool _⟩
  case gtr => cases h; exact ⟨_, rfl, by rw [Str.eq_of, Str.lt_of]; exact .bool _⟩
  case geq => cases h; exact ⟨_, rfl, by rw [Str.lt_of]; exact .bool _⟩

theorem eqGuard_run {op : BinOp} {t : TypeId} {x y : Operand} {a b : Value} (ha : ∀ cs, a ≠ .agg cs) (hn : a ≠ .nilIface) (w : World) : (eqGuard op t x y a b).run P w = .ok () w := by
  unfold eqGuard
  cases op <;> first | rfl | skip
  all_goals
    cases a <;> first | rfl | exact absurd rfl hn | exact absurd rfl (ha _) | skip

theorem binS_sound {op : BinOp} {t : TypeId} {ox oy : Operand} {x y v : SV} {rx ry : Value} (h : binS op x y = some v) (hx : VR P B sh ρ x rx) (hy : VR P B sh ρ y ry) (w : World) :
    ∃ rv, (do eqGuard op t ox oy rx ry; binOp op t rx ry : Sem Value).run P w = .ok rv w ∧ VR P B sh ρ v rv := by
  unfold binS at h
  cases x <;> simp only at h <;> first | (cases h; done) | skip
  case int k a =>
    obtain rfl := vr_int hx
    unfold bIntY at h
    cases y <;> simp only at h <;> first | (cases h; done) | skip
    case int k' b =>
      obtain rfl := vr_int hy
      have hg := eqGuard_run (P := P) (op := op) (t := t) (x := ox) (y := oy) (a := .int k a) (b := .int k' b) (by simp) (by simp) w
      by_cases h1 : op = .shl
      · subst h1
        obtain ⟨rv, h2, h3⟩ := shiftS_sound (B := B) (sh := sh) (ρ := ρ) (op := .shl) (yk := k') (.inl ⟨rfl, rfl⟩) h w
        exact ⟨rv, by simp only [Sem.run_bind, hg, Result.andThen_ok]; exact h2, h3⟩
      · by_cases h2 : op = .shr
        · subst h2
          obtain ⟨rv, h2, h3⟩ := shiftS_sound (B := B) (sh := sh) (ρ := ρ) (op := .shr) (yk := k') (.inr ⟨rfl, rfl⟩) h w
          exact ⟨rv, by simp only [Sem.run_bind, hg, Result.andThen_ok]; exact h2, h3⟩
        · have h' : bInt op k a k' b = some v := by cases op <;> first | exact h | exact absurd rfl h1 | exact absurd rfl h2
          obtain ⟨rv, h2, h3⟩ := bInt_sound (B := B) (sh := sh) (ρ := ρ) (t := t) h' h1 h2 w
          exact ⟨rv, by simp only [Sem.run_bind, hg, Result.andThen_ok]; exact h2, h3⟩
  case str s =>
    obtain ⟨bs, rfl, rfl⟩ := vr_str hx
    unfold bStrY at h
    cases y <;> simp only at h <;> first | (cases h; done) | skip
    case str s' =>
      obtain ⟨bs', rfl, rfl⟩ := vr_str hy
      have hg := eqGuard_run (P := P) (op := op) (t := t) (x := ox) (y := oy) (a := .string bs) (b := .string bs') (by simp) (by simp) w
      obtain ⟨rv, h2, h3⟩ := strOp_sound (P := P) (B := B) (sh := sh) (ρ := ρ) h w
      refine ⟨rv, ?_, h3⟩
      simp only [Sem.run_bind, hg, Result.andThen_ok]
      cases op <;> first | exact h2 | (simp only [strOp] at h; cases h)

theorem run_eqPlain {t : TypeId} {kk : Nat} (hk : kindT P t = some kk) {x y : SV} {b : Bool} (h : plainEq kk x y = some b) {rx ry : Value} (hx : VR P B sh ρ x rx) (hy : VR P B sh ρ y ry) (d : Nat) (w : World) :
    (Op.equalIn (d + 1) t rx ry).run P w = .ok b w := by
  unfold plainEq at h
  unfold kindT at hk
  split at h
  · rename_i k a k' a'
    obtain rfl := vr_int hx
    obtain rfl := vr_int hy
    split at h
    · rename_i hb
      rw [Bool.and_eq_true] at hb
      have h1 := Nat.eq_of_beq_eq_true hb.1
      obtain rfl := sameK_eq hb.2
      cases h
      rw [eqI_eq]
      split at hk <;> first | (cases hk; done) | skip
      all_goals (simp at hk; subst hk; first | (simp at h1; done) | skip)
      rename_i hu
      simp [Op.equalIn, run_underlying hu]
    · cases h
  · rename_i a a'
    obtain ⟨s, rfl, rfl⟩ := vr_str hx
    obtain ⟨s', rfl, rfl⟩ := vr_str hy
    split at h
    · rename_i hb
      have h1 := Nat.eq_of_beq_eq_true hb
      cases h
      rw [Str.eq_of]
      split at hk <;> first | (cases hk; done) | skip
      all_goals (simp at hk; subst hk; first | (simp at h1; done) | skip)
      rename_i hu
      exact run_equalIn_string w d t s s' hu
    · cases h
  · rename_i a a'
    obtain rfl := vr_bool hx
    obtain rfl := vr_bool hy
    split at h
    · rename_i hb
      have h1 := Nat.eq_of_beq_eq_true hb
      cases h
      split at hk <;> first | (cases hk; done) | skip
      all_goals (simp at hk; subst hk; first | (simp at h1; done) | skip)
      rename_i hu
      simp [Op.equalIn, run_underlying hu]
    · cases h
  · cases h

theorem binB_sound {op : BinOp} (ho : op = .eql ∨ op = .neq) {t : TypeId} (hk : kindT P t = some 0) {ox oy : Operand} {a b : Bool} (w : World) :
    (do eqGuard op t ox oy (.bool a) (.bool b); binOp op t (.bool a) (.bool b) : Sem Value).run P w = .ok (.bool (if op == .neq then !(a == b) else a == b)) w := by
  have hg := eqGuard_run (P := P) (op := op) (t := t) (x := ox) (y := oy) (a := .bool a) (b := .bool b) (by simp) (by simp) w
  have he := run_eqPlain (B := 0) (sh := fun _ => none) (ρ := fun _ => none) hk (x := .bool a) (y := .bool b) (b := a == b) rfl (.bool a) (.bool b) 9999 w
  rcases ho with rfl | rfl
  · simp only [Sem.run_bind, hg, Result.andThen_ok, binOp, Op.equal, Op.maxDepth, he]
    rfl
  · simp only [Sem.run_bind, hg, Result.andThen_ok, binOp, Op.equal, Op.maxDepth, he]
    rfl

set_option maxHeartbeats 2000000 in
theorem nilEq_in {t : TypeId} {k : Nat} (ht : nilT P t = some k) {x y : SV} {b : Bool} (h : nilEq k x y = some b) {rx ry : Value} (hx : VR P B sh ρ x rx) (hy : VR P B sh ρ y ry) (d : Nat) (w : World) :
    (Op.equalIn (d + 1) t rx ry).run P w = .ok b w ∧ (∀ cs, rx ≠ .agg cs) ∧ rx ≠ .nilIface := by
  unfold nilT at ht
  split at ht <;> cases ht
  · rename_i e hu
    simp only [nilEq, nilPtr] at h
    split at h <;> cases h
    · rename_i b'
      cases hx
      refine ⟨?_, by simp, by simp⟩
      cases hy with
      | ptrNil => simp [Op.equalIn, run_underlying hu]
      | ptr h2 => simp [Op.equalIn, run_underlying hu]
    · rename_i a hne
      cases hy
      cases hx with
      | ptrNil => first | exact (hne rfl).elim | exact (hne _ rfl).elim | (simp at hne)
      | ptr h2 => exact ⟨by simp [Op.equalIn, run_underlying hu], by simp, by simp⟩
  · rename_i e hu
    simp only [nilEq, nilSl] at h
    split at h <;> cases h
    · cases hx
      refine ⟨?_, by simp, by simp⟩
      cases hy <;> simp [Op.equalIn, run_underlying hu]
    · rename_i a n c n' c' hne
      cases hy
      cases hx with
      | sliceNil => first | exact (hne rfl).elim | exact (hne _ rfl).elim | (simp at hne)
      | slice n c h2 => exact ⟨by simp [Op.equalIn, run_underlying hu], by simp, by simp⟩
      | sliceU n c s h2 => exact ⟨by simp [Op.equalIn, run_underlying hu], by simp, by simp⟩
      | sliceZ => exact ⟨by simp [Op.equalIn, run_underlying hu], by simp, by simp⟩
      | sliceZ0 => exact ⟨by simp [Op.equalIn, run_underlying hu], by simp, by simp⟩
  · rename_i e hu
    simp only [nilEq, nilMap] at h
    split at h <;> cases h
    · cases hx
      refine ⟨?_, by simp, by simp⟩
      cases hy <;> simp [Op.equalIn, run_underlying hu]
    · rename_i a hne
      cases hy
      cases hx with
      | mapNil => first | exact (hne rfl).elim | exact (hne _ rfl).elim | (simp at hne)
      | map h2 => exact ⟨by simp [Op.equalIn, run_underlying hu], by simp, by simp⟩
  · rename_i hu
    simp only [nilEq, nilFn] at h
    split at h <;> cases h <;> cases hx <;> cases hy <;> exact ⟨by simp [Op.equalIn, run_underlying hu], by simp, by simp⟩

set_option maxHeartbeats 2000000 in
theorem nilEq_sound {op : BinOp} (ho : op = .eql ∨ op = .neq) {t : TypeId} {k : Nat} (ht : nilT P t = some k) {ox oy : Operand} {x y : SV} {b : Bool} (h : nilEq k x y = some b) {rx ry : Value} (hx : VR P B sh ρ x rx) (hy : VR P B sh ρ y ry) (w : World) :
    (do eqGuard op t ox oy rx ry; binOp op t rx ry : Sem Value).run P w = .ok (.bool (if op == .neq then !b else b)) w := by
  obtain ⟨h1, h2, h3⟩ := nilEq_in ht h hx hy 9999 w
  have hg := eqGuard_run (P := P) (op := op) (t := t) (x := ox) (y := oy) (a := rx) (b := ry) h2 h3 w
  have he : (Op.equal t rx ry).run P w = .ok b w := h1
  have hb : binOp op t rx ry = (do let r ← Op.equal t rx ry; pure (.bool (if op == .neq then !r else r))) := by
    have hk := ht
    unfold nilT at hk
    rcases ho with rfl | rfl <;> split at hk <;> cases hk <;> simp only [nilEq, nilPtr, nilSl, nilMap, nilFn] at h <;> split at h <;> cases h <;> cases hx <;> cases hy <;> first | rfl | (simp only [binOp]; rfl)
  rw [hb]
  simp only [Sem.run_bind, hg, Result.andThen_ok, he, Sem.run_pure]

theorem mapM_map_some {α β γ : Type} {f : α → Option β} {g : α → γ} : ∀ {l : List α} {m : List β}, l.mapM f = some m → l.length = m.length := fun h => (mapM_some h).1
theorem eqFields_sound {xs ys : List SV} {rx ry : List Value} (hx : VRs P B sh ρ xs rx) (hy : VRs P B sh ρ ys ry) (d : Nat) (w : World) : ∀ (fs : List Field) (offs : List (Nat × Nat)) (b : Bool),
    fs.mapM (fun f => if f.name != "_" && sizeT P f.type == some 1 then (kindT P f.type).map fun k => (f.offset, k) else none) = some offs → structEq xs ys offs = some b →
    (Op.eqFields (d + 1) rx.toArray ry.toArray fs).run P w = .ok b w
  | [], offs, b, h, hb => by
    simp at h
    subst h
    simp [structEq] at hb
    subst hb
    simp [Op.eqFields]
  | f :: fs, offs, b, h, hb => by
    simp only [List.mapM_cons, Option.bind_eq_bind, Option.bind_eq_some_iff, Option.pure_def, Option.some.injEq] at h
    obtain ⟨p, hp, ps, hps, rfl⟩ := h
    split at hp
    · rename_i hn
      simp only [Option.map_eq_some_iff] at hp
      obtain ⟨k, hk, rfl⟩ := hp
      rw [Bool.and_eq_true] at hn
      obtain ⟨hn1, hn2⟩ := hn
      have hname : f.name ≠ "_" := by simpa using hn1
      simp only [structEq] at hb
      split at hb
      · rename_i x y h1 h2
        obtain ⟨r1, hr1, hv1⟩ := hx.get h1
        obtain ⟨r2, hr2, hv2⟩ := hy.get h2
        have hagg : (isAgg f.type).run P w = .ok false w := by
          unfold kindT at hk
          split at hk <;> first | (cases hk; done) | (rename_i hu; simp [isAgg, run_underlying hu])
        have hpart : ∀ (l : List Value) (r : Value), l[f.offset]? = some r → (part f.type l.toArray f.offset).run P w = .ok r w := by
          intro l r hl
          simp [part, Sem.run_bind, hagg, hl]
        have key : ∀ bb, plainEq k x y = some bb → (Op.equalIn (d + 1) f.type r1 r2).run P w = .ok bb w := fun bb hbb => run_eqPlain hk hbb hv1 hv2 d w
        unfold Op.eqFields
        simp only [ne_eq, hname, not_false_eq_true, if_true, Sem.run_bind, hpart _ _ hr1, hpart _ _ hr2, Result.andThen_ok]
        split at hb
        · rename_i he
          rw [key true he]
          simp only [Result.andThen_ok, Bool.not_true, Bool.false_eq_true, if_false]
          exact eqFields_sound hx hy d w fs ps b hps hb
        · rename_i he
          cases hb
          rw [key false he]
          simp
        · cases hb
      · cases hb
    · cases hp
theorem structEq_sound {op : BinOp} (ho : op = .eql ∨ op = .neq) {t : TypeId} {offs : List (Nat × Nat)} (ht : structOffs P t = some offs) {ox oy : Operand} {xs ys : List SV} {b : Bool} (h : structEq xs ys offs = some b) {rx ry : List Value} (hx : VRs P B sh ρ xs rx) (hy : VRs P B sh ρ ys ry) (w : World) :
    (do eqGuard op t ox oy (.agg rx.toArray) (.agg ry.toArray); binOp op t (.agg rx.toArray) (.agg ry.toArray) : Sem Value).run P w = .ok (.bool (if op == .neq then !b else b)) w := by
  unfold structOffs at ht
  split at ht
  · rename_i fields hu
    split at ht
    · cases ht
    · rename_i hno
      rw [Bool.or_eq_true, not_or, Bool.not_eq_true, Bool.not_eq_true] at hno
      have hf : P.fieldsOf t = fields := by simp [Program.fieldsOf, hu]
      have he := eqFields_sound hx hy 9998 w fields.toList offs b ht h
      have h1 : (Op.equalIn 10000 t (.agg rx.toArray) (.agg ry.toArray)).run P w = .ok b w := by
        rw [run_equalIn_struct w 9999 t _ _ (by rw [hf]; exact hu) hno.1, hf]
        exact he
      have hg := run_eqGuard_agg (P := P) w op t ox oy rx.toArray ry.toArray hno.2
      rcases ho with rfl | rfl
      · simp only [Sem.run_bind, hg, Result.andThen_ok, run_eql_struct, h1]; rfl
      · simp only [Sem.run_bind, hg, Result.andThen_ok, run_neq_struct, h1]; rfl
  · cases ht

/-! ### Bounds, slices -/
theorem bnd_sound {x : SV} {y m : Nat} (h : bnd x y = some m) {r : Value} (hx : VR P B sh ρ x r) (code : BoundsCode) (w : World) : (Instr.sliceBound r y code).run P w = .ok m w ∧ m ≤ y := by
  unfold bnd at h
  split at h
  · rename_i k n
    obtain rfl := vr_int hx
    split at h
    · rename_i hc
      cases h
      refine ⟨?_, by omega⟩
      simp [Instr.sliceBound, asIntOf, hc]
    · cases h
  · cases h
inductive VRo (P : Program) (B : Nat) (sh : Shp) (ρ : Ren) : Option SV → Option Value → Prop
  | none : VRo P B sh ρ none none
  | some {v : SV} {r : Value} (h : VR P B sh ρ v r) : VRo P B sh ρ (some v) (some r)
theorem sliceStr_sound {s : ByteArray} {lo hi : Option SV} {v : SV} (h : sliceStr (Str.of s) lo hi = some v) {rlo rhi : Option Value} (hlo : VRo P B sh ρ lo rlo) (hhi : VRo P B sh ρ hi rhi) {t : TypeId} (ht : P.underlying t = some .string) (w : World) :
    ∃ rv, (Instr.slice t (.string s) rlo rhi none).run P w = .ok rv w ∧ VR P B sh ρ v rv := by
  unfold sliceStr at h
  rw [Str.of_len] at h
  split at h
  · cases h
  · rename_i m hm
    split at h
    · cases h
    · rename_i l hl
      cases h
      have fin : l ≤ m → m ≤ s.size → VR P B sh ρ (.str ((Str.of s).extract l m)) (.string (s.extract l m)) := fun h1 h2 => by
        rw [← Str.of_extract s l m h1 h2]; exact .str _
      cases hhi with
      | none =>
        simp [bndO] at hm; subst hm
        cases hlo with
        | none =>
          simp [bndO] at hl; subst hl
          exact ⟨.string (s.extract 0 s.size), by simp [Instr.slice, Instr.sliceBounds, run_underlying ht], fin (Nat.zero_le _) (Nat.le_refl _)⟩
        | some hv =>
          obtain ⟨h1, h2⟩ := bnd_sound hl hv .sliceB w
          exact ⟨.string (s.extract l s.size), by simp [Instr.slice, Instr.sliceBounds, run_underlying ht, h1], fin h2 (Nat.le_refl _)⟩
      | some hu =>
        obtain ⟨h3, h4⟩ := bnd_sound hm hu .sliceAlen w
        cases hlo with
        | none =>
          simp [bndO] at hl; subst hl
          exact ⟨.string (s.extract 0 m), by simp [Instr.slice, Instr.sliceBounds, run_underlying ht, h3], fin (Nat.zero_le _) h4⟩
        | some hv =>
          obtain ⟨h1, h2⟩ := bnd_sound hl hv .sliceB w
          exact ⟨.string (s.extract l m), by simp [Instr.slice, Instr.sliceBounds, run_underlying ht, h3, h1], fin h2 h4⟩

end
end Go.Sh
