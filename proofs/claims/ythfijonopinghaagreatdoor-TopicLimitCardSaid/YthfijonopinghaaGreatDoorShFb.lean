/-
  The shadow machine, part Fb: what the faster one answers, the machine answers.
-/
import Derived.Test.YthfijonopinghaaGreatDoorShFa
set_option linter.unusedSimpArgs false
set_option linter.unusedVariables false
namespace Go.Sh
theorem natC_eq (n : Nat) (k : Nat → RT) : natC n k = k n := by cases n <;> rfl
theorem intC_eq (n : Int) (k : Int → RT) : intC n k = k n := by
  cases n with
  | ofNat m => exact natC_eq m fun m => k (.ofNat m)
  | negSucc m => exact natC_eq m fun m => k (.negSucc m)
theorem boolC_eq (b : Bool) (k : Bool → RT) : boolC b k = k b := by cases b <;> rfl
theorem strC_eq (s : Str) (k : Str → RT) : strC s k = k s := by
  cases s with
  | mk n len =>
    show natC n (fun n => natC len fun len => k ⟨n, len⟩) = _
    rw [natC_eq, natC_eq]
theorem saC_eq (a : SA) (k : SA → RT) : saC a k = k a := by
  cases a with
  | mk b n o =>
    show boolC b (fun b => natC n fun n => natC o fun o => k ⟨b, n, o⟩) = _
    rw [boolC_eq, natC_eq, natC_eq]
theorem osaC_eq (a : Option SA) (k : Option SA → RT) : osaC a k = k a := by
  cases a with
  | none => rfl
  | some a => exact saC_eq a fun a => k (some a)
theorem capC_eq (c : SCap) (k : SCap → RT) : capC c k = k c := by
  cases c with
  | kn c => exact natC_eq c fun c => k (.kn c)
  | un s => exact natC_eq s fun s => k (.un s)
noncomputable def valsC (l : List SV) : (List SV → RT) → RT :=
  SV.rec_1 (motive_1 := fun _ => (SV → RT) → RT) (motive_2 := fun _ => (List SV → RT) → RT) (fun b k => boolC b fun b => k (.bool b)) (fun i n k => intC n fun n => k (.int i n)) (fun s k => strC s fun s => k (.str s)) (fun a k => osaC a fun a => k (.ptr a))
    (fun a n c k => osaC a fun a => natC n fun n => capC c fun c => k (.slice a n c)) (fun r k => k (.map r)) (fun f _ ih k => ih fun cs => k (.func f cs)) (fun l k => k (.yield l)) (fun k => k .nilFunc) (fun t _ ih k => ih fun v => k (.iface t v)) (fun k => k .nilIface)
    (fun _ ih k => ih fun cs => k (.agg cs)) (fun _ ih k => ih fun cs => k (.tuple cs)) (fun k => k []) (fun _ _ ihv ihs k => ihv fun v => ihs fun vs => k (v :: vs)) l
mutual
theorem valC_eq : ∀ (v : SV) (k : SV → RT), valC v k = k v
  | .bool b, k => boolC_eq b fun b => k (.bool b)
  | .int i n, k => intC_eq n fun n => k (.int i n)
  | .str s, k => strC_eq s fun s => k (.str s)
  | .ptr a, k => osaC_eq a fun a => k (.ptr a)
  | .slice a n c, k => by
    show osaC a (fun a => natC n fun n => capC c fun c => k (.slice a n c)) = _
    rw [osaC_eq, natC_eq, capC_eq]
  | .map _, _ => rfl
  | .func f cs, k => valsC_eq cs fun cs => k (.func f cs)
  | .yield _, _ => rfl
  | .nilFunc, _ => rfl
  | .iface t v, k => valC_eq v fun v => k (.iface t v)
  | .nilIface, _ => rfl
  | .agg cs, k => valsC_eq cs fun cs => k (.agg cs)
  | .tuple cs, k => valsC_eq cs fun cs => k (.tuple cs)
theorem valsC_eq : ∀ (l : List SV) (k : List SV → RT), valsC l k = k l
  | [], _ => rfl
  | v :: vs, k => by
    show valC v (fun v => valsC vs fun vs => k (v :: vs)) = _
    rw [valC_eq v, valsC_eq vs]
end
theorem setC_eq {α : Type} (t : T α) : ∀ (p : Pth) (v : Option α) (k : T α → RT), setC t p v k = k (t.setP p v) := by
  induction t with
  | e => intro p v k; rfl
  | nd l w r ihl ihr =>
    intro p v k
    cases p with
    | z => rfl
    | l q => exact ihl q v fun l => k (.nd l w r)
    | r q => exact ihr q v fun r => k (.nd l w r)
theorem getC_eq (tm : T SV) (t : Nat) (c : SV → RT) : getC tm t c = c (getT tm t) := by unfold getC getT; cases tm.get t <;> rfl
theorem xC_eq (x : SX) (tm : T SV) (c : SV → RT) : xC x tm c = c (evX tm x) := by cases x <;> first | rfl | exact getC_eq _ _ _
theorem putC_eq (dst : Option Nat) (tm : T SV) (v : SV) (ds : List Nat) (ro : Option Nat) (k : T SV → RT) : putC dst tm v k = k (SAct.put ⟨tm, ds, ro⟩ dst v).tm := by
  cases dst with
  | none => rfl
  | some d => exact setC_eq tm (pth d) (some v) k
theorem put_eta (dst : Option Nat) (tm : T SV) (v : SV) (ds : List Nat) (ro : Option Nat) : (⟨(SAct.put ⟨tm, ds, ro⟩ dst v).tm, ds, ro⟩ : SAct) = SAct.put ⟨tm, ds, ro⟩ dst v := by cases dst <;> rfl
theorem layC_eq : ∀ (l : List SV) (i : Nat) (t : T SV) (k : T SV → RT), layC l i t k = k (t.putList i l)
  | [], _, _, _ => rfl
  | v :: vs, i, t, k => by
    show setC t (pth i) (some v) (fun t => natC (Nat.succ i) fun i => layC vs i t k) = _
    rw [setC_eq, natC_eq, layC_eq vs]
    rfl
theorem argsC_eq : ∀ (l : List SX) (tm : T SV) (cs : List SV) (k : List SV → RT), argsC l tm cs k = k (l.map (evX tm) ++ cs)
  | [], _, _, _ => rfl
  | x :: l, tm, cs, k => by
    show xC x tm (fun v => argsC l tm cs fun vs => k (v :: vs)) = _
    rw [xC_eq, argsC_eq l]
    rfl
theorem stC_eq (σ : SSt) (k : SSt → RT) : stC σ k = k σ := by
  cases σ with
  | mk h n m ms =>
    show natC n (fun n => natC m fun m => k ⟨h, n, m, ms⟩) = _
    rw [natC_eq, natC_eq]
theorem optF_ok {α : Type} {o : Option α} {k : α → RT} {r : SV × SSt} (h : optF o k = .ok r) : ∃ a, o = some a ∧ k a = .ok r := by
  cases o with
  | none => cases h
  | some a => exact ⟨a, rfl, h⟩
theorem vF_ok {o : Option SV} {c : SV → RT} {r : SV × SSt} (h : vF o c = .ok r) : ∃ v, o = some v ∧ c v = .ok r := by
  obtain ⟨v, h1, h2⟩ := optF_ok h
  rw [valC_eq] at h2
  exact ⟨v, h1, h2⟩
theorem evF1_ok {e : RT} {k : KV} {r : SV × SSt} (h : evF1 e k = .ok r) : ∃ v σ, e = .ok (v, σ) ∧ k v σ = .ok r := by
  cases e with
  | fail => cases h
  | ok a =>
    have h : valC a.1 (fun v => stC a.2 fun σ => k v σ) = .ok r := h
    rw [valC_eq, stC_eq] at h
    exact ⟨a.1, a.2, rfl, h⟩
  | any n g => cases h
theorem onInt_eq (v : SV) (d : RT) (g : IntKind → Int → RT) : onInt v d g = match v with | .int k n => g k n | _ => d := by cases v <;> rfl
theorem onBool_eq (v : SV) (d : RT) (g : Bool → RT) : onBool v d g = match v with | .bool b => g b | _ => d := by cases v <;> rfl
theorem onPtr_eq (v : SV) (d : RT) (g : Option SA → RT) : onPtr v d g = match v with | .ptr a => g a | _ => d := by cases v <;> rfl
theorem onInt_ok {v : SV} {g : IntKind → Int → RT} {r : SV × SSt} (h : onInt v .fail g = .ok r) : ∃ k n, v = .int k n ∧ g k n = .ok r := by
  rw [onInt_eq] at h
  split at h
  · exact ⟨_, _, rfl, h⟩
  · cases h
theorem onBool_ok {v : SV} {g : Bool → RT} {r : SV × SSt} (h : onBool v .fail g = .ok r) : ∃ b, v = .bool b ∧ g b = .ok r := by
  rw [onBool_eq] at h
  split at h
  · exact ⟨_, rfl, h⟩
  · cases h
theorem onPtr_ok {v : SV} {g : Option SA → RT} {r : SV × SSt} (h : onPtr v .fail g = .ok r) : ∃ a, v = .ptr a ∧ g a = .ok r := by
  rw [onPtr_eq] at h
  split at h
  · exact ⟨_, rfl, h⟩
  · cases h
theorem wrapFF_eq (k : IntKind) (n : Int) : wrapFF k n = wrapF k n := by
  cases n with
  | ofNat m =>
    have h : wrapFF k (.ofNat m) = Bool.rec (wrapF k (.ofNat m)) (.ofNat m) (Nat.ble (Nat.succ m) (hiK k)) := rfl
    rw [h]
    cases hb : Nat.ble (Nat.succ m) (hiK k) with
    | false => rfl
    | true =>
      have hb' : Nat.blt m (hiK k) = true := hb
      simp only [wrapF, hb']
  | negSucc m => rfl
theorem addF_eq (a b : Int) : addF a b = Int.add a b := by cases a <;> cases b <;> rfl
theorem subF_eq (a b : Int) : subF a b = Int.sub a b := by
  cases a with
  | ofNat m => cases b with
    | ofNat n =>
      have h : subF (.ofNat m) (.ofNat n) = Bool.rec (Int.sub (.ofNat m) (.ofNat n)) (.ofNat (Nat.sub m n)) (Nat.ble n m) := rfl
      rw [h]
      cases hb : Nat.ble n m with
      | false => rfl
      | true =>
        have hle : n ≤ m := Nat.le_of_ble_eq_true hb
        show Int.ofNat (m - n) = (Int.ofNat m) - (Int.ofNat n)
        simp only [Int.ofNat_eq_natCast]
        omega
    | negSucc n => rfl
  | negSucc m => rfl
theorem eqIF_eq (a b : Int) : eqIF a b = eqI a b := by cases a <;> cases b <;> rfl
theorem ltIF_eq (a b : Int) : ltIF a b = ltI a b := by cases a <;> cases b <;> rfl
theorem notF_eq (b : Bool) : notF b = !b := by cases b <;> rfl
theorem sameF_eq (k k' : IntKind) (r : RT) : sameF k k' r = match sameK k k' with | true => r | false => .fail := by cases k <;> cases k' <;> rfl
theorem same_opt {k k' : IntKind} {v : SV} {c : SV → RT} : sameF k k' (c v) = vF (match sameK k k' with | true => some v | false => none) c := by
  rw [sameF_eq]
  cases sameK k k' with
  | true => exact (valC_eq v c).symm
  | false => rfl
theorem bin2_eq (op : BinOp) (k : IntKind) (a : Int) (k' : IntKind) (b : Int) (c : SV → RT) : bin2 op k a k' b c = vF (binS op (.int k a) (.int k' b)) c := by
  cases op
  case add => show sameF k k' _ = _; rw [intC_eq, same_opt, wrapFF_eq, addF_eq]; rfl
  case sub => show sameF k k' _ = _; rw [intC_eq, same_opt, wrapFF_eq, subF_eq]; rfl
  case eql => show sameF k k' _ = _; rw [boolC_eq, same_opt, eqIF_eq]; rfl
  case neq => show sameF k k' _ = _; rw [boolC_eq, same_opt, eqIF_eq, notF_eq]; rfl
  case lss => show sameF k k' _ = _; rw [boolC_eq, same_opt, ltIF_eq]; rfl
  case leq => show sameF k k' _ = _; rw [boolC_eq, same_opt, ltIF_eq, notF_eq]; rfl
  case gtr => show sameF k k' _ = _; rw [boolC_eq, same_opt, ltIF_eq]; rfl
  case geq => show sameF k k' _ = _; rw [boolC_eq, same_opt, ltIF_eq, notF_eq]; rfl
  case xor =>
    cases a with
    | negSucc m => rfl
    | ofNat m => cases b with
      | negSucc n => rfl
      | ofNat n =>
        show sameF k k' (Bool.rec (fGen .xor k (.ofNat m) k' (.ofNat n) c) (natC (Nat.xor m n) fun q => c (.int k (.ofNat q))) (and (Nat.ble (Nat.succ m) (hiK k)) (Nat.ble (Nat.succ n) (hiK k)))) = _
        rw [sameF_eq, natC_eq]
        have hb : binS .xor (.int k (.ofNat m)) (.int k' (.ofNat n)) = match sameK k k' with | true => iXor k (.ofNat m) (.ofNat n) | false => none := rfl
        rw [hb]
        cases hs : sameK k k' with
        | false => rfl
        | true =>
          simp only
          cases hc : and (Nat.ble (Nat.succ m) (hiK k)) (Nat.ble (Nat.succ n) (hiK k)) with
          | false =>
            show fGen .xor k (.ofNat m) k' (.ofNat n) c = _
            unfold fGen
            rw [hb, hs]
          | true =>
            have h2 : (Nat.blt m (hiK k) && Nat.blt n (hiK k)) = true := hc
            show c (.int k (.ofNat (Nat.xor m n))) = _
            unfold iXor bitsF
            simp only [h2]
            exact (valC_eq _ c).symm
  all_goals rfl
theorem binF_ok {op : BinOp} {x y : SV} {c : SV → RT} {r : SV × SSt} (h : binF op x y c = .ok r) : ∃ v, binS op x y = some v ∧ c v = .ok r := by
  unfold binF at h
  rw [onInt_eq] at h
  split at h
  · obtain ⟨k', b, rfl, h2⟩ := onInt_ok h
    rw [bin2_eq] at h2
    exact vF_ok h2
  · exact vF_ok h
theorem nthF_ok : ∀ {l : List SV} {i : Nat} {c : SV → RT} {r : SV × SSt}, nthF l i c = .ok r → ∃ v, l[i]? = some v ∧ c v = .ok r
  | [], i, c, r, h => by cases h
  | v :: l, 0, c, r, h => ⟨v, rfl, h⟩
  | v :: l, i + 1, c, r, h => by
    obtain ⟨u, h1, h2⟩ := nthF_ok (l := l) (i := i) h
    exact ⟨u, by simpa using h1, h2⟩
theorem tupF_ok {v : SV} {i : Nat} {c : SV → RT} {r : SV × SSt} (h : tupF v i c .fail = .ok r) : ∃ vs u, v = .tuple vs ∧ vs[i]? = some u ∧ c u = .ok r := by
  cases v with
  | tuple vs =>
    obtain ⟨u, h1, h2⟩ := nthF_ok (l := vs) h
    exact ⟨vs, u, rfl, h1, h2⟩
  | _ => cases h
theorem locF_ok {l : LOp} {tm : T SV} {c : SV → RT} {r : SV × SSt} (h : locF l tm c = .ok r) : ∃ v, evLocal l tm = some v ∧ c v = .ok r := by
  cases l
  case mov x =>
    have h : xC x tm c = .ok r := h
    rw [xC_eq] at h
    exact ⟨_, rfl, h⟩
  case pick a b d =>
    have h : xC a tm (fun v => onBool v .fail fun q => Bool.rec (xC d tm c) (xC b tm c) q) = .ok r := h
    rw [xC_eq] at h
    obtain ⟨q, h1, h2⟩ := onBool_ok h
    cases q with
    | true =>
      have h2 : xC b tm c = .ok r := h2
      rw [xC_eq] at h2
      exact ⟨_, by simp only [evLocal, lPick, h1], h2⟩
    | false =>
      have h2 : xC d tm c = .ok r := h2
      rw [xC_eq] at h2
      exact ⟨_, by simp only [evLocal, lPick, h1], h2⟩
  case bin op x y =>
    have h : xC x tm (fun u => xC y tm fun v => binF op u v c) = .ok r := h
    rw [xC_eq, xC_eq] at h
    exact binF_ok h
  case convInt k x =>
    have h : xC x tm (fun v => onInt v .fail fun _ n => intC (wrapFF k n) fun n => c (.int k n)) = .ok r := h
    rw [xC_eq] at h
    obtain ⟨k', n, h1, h2⟩ := onInt_ok h
    rw [intC_eq, wrapFF_eq] at h2
    exact ⟨_, by simp only [evLocal, lConvInt, h1], h2⟩
  case fieldAddr o x =>
    have h : xC x tm (fun v => onPtr v .fail fun p => optF p fun a => SA.rec (motive := fun _ => RT) (fun b n f => natC (Nat.add f o) fun f => c (.ptr (some ⟨b, n, f⟩))) a) = .ok r := h
    rw [xC_eq] at h
    obtain ⟨p, h1, h2⟩ := onPtr_ok h
    obtain ⟨a, rfl, h3⟩ := optF_ok h2
    obtain ⟨b, n, f⟩ := a
    have h3 : natC (Nat.add f o) (fun f => c (.ptr (some ⟨b, n, f⟩))) = .ok r := h3
    rw [natC_eq] at h3
    exact ⟨_, by simp only [evLocal, lFieldAddr, h1]; rfl, h3⟩
  case extract x i =>
    have h : xC x tm (fun v => tupF v i c .fail) = .ok r := h
    rw [xC_eq] at h
    obtain ⟨vs, u, h1, h2, h3⟩ := tupF_ok h
    exact ⟨u, by simp only [evLocal, lExtract, h1, h2], h3⟩
  all_goals exact vF_ok h
section
variable {E : Env}
theorem onCells_ok {o : SObj} {g : T SV → Nat → TypeId → RT} {r : SV × SSt} (h : onCells o .fail g = .ok r) : ∃ t n e, o = .cells t n e ∧ g t n e = .ok r := by
  cases o with
  | cells t n e => exact ⟨t, n, e, rfl, h⟩
  | _ => cases h
theorem lenF_eq : ∀ l : List SV, lenF l = l.length
  | [] => rfl
  | _ :: l => congrArg Nat.succ (lenF_eq l)
theorem oneF_eq : ∀ l : List SV, oneF l = l.all SV.one
  | [] => rfl
  | v :: l => by
    have h : oneF (v :: l) = Bool.rec false (oneF l) (SV.one v) := rfl
    rw [h, oneF_eq l, List.all_cons]
    cases SV.one v <;> rfl
theorem modsF_eq (k m : Nat) (ms : List Nat) : modsF k m ms = match Nat.blt k m with | true => k :: ms | false => ms := by
  have h : modsF k m ms = Bool.rec ms (k :: ms) (Nat.blt k m) := rfl
  rw [h]
  cases Nat.blt k m <;> rfl
theorem newF_eq (e : TypeId) (cs : List SV) (σ : SSt) (c : KV) : newF e cs σ c = c (.ptr (some ⟨false, σ.next, 0⟩)) (σ.newCells e cs) := by
  unfold newF
  rw [natC_eq, layC_eq, setC_eq, natC_eq]
  rfl
theorem turnC_eq (l : Nat) (o : SObj) (σ : SSt) (c : SSt → RT) : turnC l o σ c = c (σ.put l (some o)) := by
  unfold turnC
  rw [setC_eq, modsF_eq]
  rfl
theorem loadF_ok {agg : Option Nat} {x : SX} {tm : T SV} {σ : SSt} {c : KV} {r : SV × SSt} (h : loadF E agg x tm σ c = .ok r) : ∃ v σ1, mLoad E agg x tm σ = .ok (v, σ1) ∧ c v σ1 = .ok r := by
  unfold loadF at h
  rw [xC_eq] at h
  obtain ⟨p, h1, h2⟩ := onPtr_ok h
  obtain ⟨a, rfl, h3⟩ := optF_ok h2
  have fin : ∀ v, rdVar E σ agg a = some v → c v σ = .ok r → ∃ v σ1, mLoad E agg x tm σ = .ok (v, σ1) ∧ c v σ1 = .ok r := fun v h4 h5 => ⟨v, σ, by simp only [mLoad, h1, h4], h5⟩
  cases agg with
  | some n =>
    obtain ⟨v, h4, h5⟩ := vF_ok h3
    exact fin v h4 h5
  | none =>
    obtain ⟨b, n, f⟩ := a
    cases b with
    | true =>
      obtain ⟨v, h4, h5⟩ := vF_ok h3
      exact fin v h4 h5
    | false =>
      obtain ⟨o, h4, h5⟩ := optF_ok h3
      obtain ⟨t, m, e, rfl, h6⟩ := onCells_ok h5
      obtain ⟨v, h7, h8⟩ := optF_ok h6
      exact fin v (by simp only [rdVar, rd, h4]; exact h7) h8
theorem storeF_ok {size : Nat} {x y : SX} {tm : T SV} {σ : SSt} {c : KV} {r : SV × SSt} (h : storeF size x y tm σ c = .ok r) : ∃ v σ1, mStore size x y tm σ = .ok (v, σ1) ∧ c v σ1 = .ok r := by
  unfold storeF at h
  rw [xC_eq] at h
  obtain ⟨p, h1, h2⟩ := onPtr_ok h
  obtain ⟨a, rfl, h3⟩ := optF_ok h2
  rw [xC_eq, lenF_eq, oneF_eq] at h3
  obtain ⟨b, n, f⟩ := a
  cases hs : Nat.beq (evX tm y).cells.length size with
  | false => rw [hs] at h3; cases h3
  | true =>
    rw [hs] at h3
    cases b with
    | true => cases h3
    | false =>
      obtain ⟨o, h4, h5⟩ := optF_ok h3
      obtain ⟨t, m, e, rfl, h6⟩ := onCells_ok h5
      cases hc : and (Nat.ble (Nat.add f (evX tm y).cells.length) m) ((evX tm y).cells.all SV.one) with
      | false => rw [hc] at h6; cases h6
      | true =>
        rw [hc] at h6
        have h6 : layC (evX tm y).cells f t (fun t => setC σ.heap (pth n) (some (.cells t m e)) fun h => c undefS ⟨h, σ.next, σ.mark, modsF n σ.mark σ.mods⟩) = .ok r := h6
        rw [layC_eq, setC_eq, modsF_eq] at h6
        refine ⟨undefS, σ.put n (some (.cells (t.putList f (evX tm y).cells) m e)), ?_, h6⟩
        have hw : wr σ ⟨false, n, f⟩ (evX tm y).cells = some (σ.put n (some (.cells (t.putList f (evX tm y).cells) m e))) := by
          unfold wr
          simp only [h4]
          rw [if_pos]
          rw [Bool.and_eq_true] at hc ⊢
          exact ⟨decide_eq_true (Nat.le_of_ble_eq_true hc.1), hc.2⟩
        simp only [mStore, h1, hs, hw]
theorem memF_ok {m : MOp} {tm : T SV} {σ : SSt} {c : KV} {r : SV × SSt} (h : memF E m tm σ c = .ok r) : ∃ v σ1, evMem E m tm σ = .ok (v, σ1) ∧ c v σ1 = .ok r := by
  cases m
  case bad => cases h
  case alloc e z =>
    have h : newF e z σ c = .ok r := h
    rw [newF_eq] at h
    exact ⟨_, _, rfl, h⟩
  case box e x =>
    have h : xC x tm (fun v => Bool.rec (motive := fun _ => RT) .fail (newF e v.cells σ c) (oneF v.cells)) = .ok r := h
    rw [xC_eq, oneF_eq, newF_eq] at h
    cases ho : (evX tm x).cells.all SV.one with
    | false => rw [ho] at h; cases h
    | true =>
      rw [ho] at h
      exact ⟨_, _, by simp only [evMem, mBox, ho], h⟩
  case load a x => exact loadF_ok h
  case store s x y => exact storeF_ok h
  all_goals exact evF1_ok h

/-! ### Operations -/
def CodeFOk (E : Env) (code : CodeT) : Prop := ∀ c tm ds ro σ k r, code c tm ds ro σ k = .ok r → WC E c ⟨tm, ds, ro⟩ σ fun e a σ' => a.ro = ro ∧ k e a.tm a.defers σ' = .ok r
def CallFOk (E : Env) (call : CallT) : Prop := ∀ f args σ k r, call f args σ k = .ok r → WK E f args σ fun v σ' => k v σ' = .ok r
theorem onExit_eq (e : SExit) (a : RT) (b : Nat → RT) (d : RT) : onExit e a b d = match e with | .normal => a | .exit i => b i | .ret => d := by cases e <;> rfl
theorem getLoop_ok {σ : SSt} {l : Nat} {g : LState → Option Jump → T SV → List Nat → SCode → SCode → Nat → RT} {r : SV × SSt} (h : getLoop σ l g = .ok r) : ∃ L : SLoop, σ.heap.get l = some (.loop L) ∧ g L.state L.pending L.tm L.params L.assign L.body L.defers = .ok r := by
  unfold getLoop at h
  obtain ⟨o, h1, h2⟩ := optF_ok h
  cases o with
  | loop L => exact ⟨L, h1, h2⟩
  | _ => cases h2
theorem roundEndF_ok {l : Nat} {e : SExit} {σ : SSt} {c : KV} {r : SV × SSt} (a : SAct) (h : roundEndF l e σ c = .ok r) : ∃ v σ2, roundEnd l (e, a, σ) = .ok (v, σ2) ∧ c v σ2 = .ok r := by
  unfold roundEndF at h
  obtain ⟨L, h1, h2⟩ := getLoop_ok h
  rw [onExit_eq, turnC_eq, turnC_eq] at h2
  cases e with
  | normal => exact ⟨_, _, by simp only [roundEnd, h1], h2⟩
  | ret => exact ⟨_, _, by simp only [roundEnd, h1], h2⟩
  | exit i =>
    simp only at h2
    rw [turnC_eq] at h2
    exact ⟨_, _, by simp only [roundEnd, h1], h2⟩
variable {code : CodeT} {call : CallT} (hcode : CodeFOk E code) (hcall : CallFOk E call)
include hcode in
theorem roundF_ok {l : Nat} {args : List SV} {σ : SSt} {c : KV} {r : SV × SSt} (h : roundF code l args σ c = .ok r) : Fin (fun n => evRound (evN E n).1 l args σ) fun q => c q.1 q.2 = .ok r := by
  unfold roundF at h
  obtain ⟨L, hL, h⟩ := getLoop_ok h
  obtain ⟨tm, htm, h⟩ := optF_ok h
  refine Fin.congr (g := fun n => ((evN E n).1 L.assign ⟨tm, [], some l⟩ σ).bind (roundBody (evN E n).1 l L.body)) (fun n => by simp only [evRound, hL, htm]) ?_
  refine Fin.bind (f := fun n q => roundBody (evN E n).1 l L.body q) (Fin.mono (hcode _ _ _ _ _ _ _ h) fun q hq => ?_)
  obtain ⟨e, ⟨tm1, ds1, ro1⟩, σ1⟩ := q
  obtain ⟨hro, hq⟩ := hq
  simp only at hro hq
  subst hro
  rw [onExit_eq] at hq
  cases e with
  | exit i => cases hq
  | ret => cases hq
  | normal =>
    obtain ⟨L1, hL1, hq⟩ := getLoop_ok hq
    cases hst : L1.state with
    | busy => rw [hst] at hq; cases hq
    | done => rw [hst] at hq; cases hq
    | exhausted => rw [hst] at hq; cases hq
    | ready =>
      rw [hst] at hq
      have hq : turnC l (.loop ⟨.busy, L1.pending, L1.tm, L1.params, L1.assign, L1.body, L1.defers⟩) σ1 (fun σ2 => code L.body tm1 ds1 (some l) σ2 fun e2 _ _ σ3 => roundEndF l e2 σ3 c) = .ok r := hq
      rw [turnC_eq] at hq
      refine Fin.congr (g := fun n => ((evN E n).1 L.body ⟨tm1, ds1, some l⟩ (σ1.put l (some (.loop { L1 with state := .busy })))).bind (roundEnd l)) (fun n => by simp only [roundBody, hL1, hst]) ?_
      refine Fin.bind (f := fun _ q => roundEnd l q) (Fin.mono (hcode _ _ _ _ _ _ _ hq) fun q2 hq2 => ?_)
      obtain ⟨e2, a2, σ2⟩ := q2
      obtain ⟨v, σ3, h1, h2⟩ := roundEndF_ok a2 hq2.2
      exact Fin.pure (r := (v, σ3)) (fun _ => h1) h2
theorem onFn_ok {v : SV} {g : FuncId → List SV → RT} {y : Nat → RT} {r : SV × SSt} (h : onFn v .fail g y = .ok r) : (∃ f cs, v = .func f cs ∧ g f cs = .ok r) ∨ ∃ l, v = .yield l ∧ y l = .ok r := by
  cases v with
  | func f cs => exact .inl ⟨f, cs, rfl, h⟩
  | yield l => exact .inr ⟨l, rfl, h⟩
  | _ => cases h
include hcode hcall in
theorem opF_ok {o : SOp} {tm : T SV} {σ : SSt} {c : KV} {r : SV × SSt} (h : opF E code call o tm σ c = .ok r) : WP E o tm σ fun v σ1 => c v σ1 = .ok r := by
  cases o with
  | loc l =>
    obtain ⟨v, h1, h2⟩ := locF_ok (l := l) (tm := tm) (c := fun v => c v σ) h
    exact WP.loc h1 h2
  | mem m =>
    obtain ⟨v, σ1, h1, h2⟩ := memF_ok (E := E) (m := m) h
    exact WP.mem h1 h2
  | call f args =>
    have h : xC f tm (fun v => onFn v .fail (fun g cs => argsC args tm cs fun as => call g as σ c) (fun l => argsC args tm [] fun as => roundF code l as σ c)) = .ok r := h
    rw [xC_eq] at h
    rcases onFn_ok h with ⟨g, cs, hf, h⟩ | ⟨l, hf, h⟩
    · rw [argsC_eq] at h
      exact WP.call hf (hcall _ _ _ _ _ h)
    · rw [argsC_eq, List.append_nil] at h
      exact Fin.congr (fun n => by simp only [evOp, oCall, hf]) (roundF_ok hcode h)
theorem onWant_eq (g : Option (Nat × Bool)) (tm : T SV) (a b : RT) : onWant g tm a b = match wantedS tm g with | true => a | false => b := by
  cases g with
  | none => rfl
  | some p =>
    have h : onWant (some p) tm a b = Bool.rec b a (wantedS tm (some p)) := rfl
    rw [h]
    cases wantedS tm (some p) <;> rfl
include hcode hcall in
theorem opsF_ok : ∀ (ops : List SOper) (tm : T SV) (σ : SSt) (c : T SV → SSt → RT) (r : SV × SSt) (ds : List Nat) (ro : Option Nat), opsF E code call ops tm σ c = .ok r → WO E ops ⟨tm, ds, ro⟩ σ fun a σ' => a.defers = ds ∧ a.ro = ro ∧ c a.tm σ' = .ok r := by
  intro ops
  induction ops with
  | nil => intro tm σ c r ds ro h; exact WO.nil ⟨rfl, rfl, h⟩
  | cons o os ih =>
    intro tm σ c r ds ro h
    have h : onWant o.guard tm (opF E code call o.op tm σ fun v σ1 => putC o.dst tm v fun tm => opsF E code call os tm σ1 c) (putC o.dst tm undefS fun tm => opsF E code call os tm σ c) = .ok r := h
    rw [onWant_eq] at h
    split at h
    · rename_i hw
      refine WO.on hw (Fin.mono (opF_ok hcode hcall h) fun q hq => ?_)
      show WO E os (SAct.put ⟨tm, ds, ro⟩ o.dst q.1) q.2 _
      simp only at hq
      rw [putC_eq o.dst tm q.1 ds ro] at hq
      have h3 := ih _ _ _ _ ds ro hq
      rw [put_eta] at h3
      exact h3
    · rename_i hw
      refine WO.off hw ?_
      rw [putC_eq o.dst tm undefS ds ro] at h
      have h3 := ih _ _ _ _ ds ro h
      rw [put_eta] at h3
      exact h3
include hcode hcall in
theorem drawF_ok : ∀ (ops : List (SOper × Nat)) (i loud : Nat) (rs : List Rc) (lk : List (Nat × Nat)) (tm : T SV) (σ : SSt) (c : T SV → SSt → RT) (r : SV × SSt) (ds : List Nat) (ro : Option Nat), drawF E code call ops i loud rs lk tm σ c = .ok r →
    WD E ops i loud rs lk ⟨tm, ds, ro⟩ σ fun a σ' => a.defers = ds ∧ a.ro = ro ∧ c a.tm σ' = .ok r := by
  intro ops
  induction ops with
  | nil => intro i loud rs lk tm σ c r ds ro h; exact Fin.pure (fun _ => rfl) ⟨rfl, rfl, h⟩
  | cons p os ih =>
    obtain ⟨o, bm⟩ := p
    intro i loud rs lk tm σ c r ds ro h
    -- from one to the rest
    have next : ∀ (v : SV) (i loud : Nat) (rs : List Rc) (lk : List (Nat × Nat)) (σ : SSt), putC o.dst tm v (fun tm => drawF E code call os i loud rs lk tm σ c) = .ok r → WD E os i loud rs lk (SAct.put ⟨tm, ds, ro⟩ o.dst v) σ fun a σ' => a.defers = ds ∧ a.ro = ro ∧ c a.tm σ' = .ok r := by
      intro v i loud rs lk σ hq
      rw [putC_eq o.dst tm v ds ro] at hq
      have h3 := ih _ _ _ _ _ _ _ _ ds ro hq
      rw [put_eta] at h3
      exact h3
    have h : onWant o.guard tm
      (Bool.rec (motive := fun _ => RT) (opF E code call o.op tm σ fun v _ => putC o.dst tm v fun tm => drawF E code call os (i + 1) loud rs lk tm σ c)
        (Option.rec (motive := fun _ => RT)
          (opF E code call o.op tm (viewOf (rs.filter fun r => !bm.testBit r.i) σ) fun v σ' =>
            Bool.rec (motive := fun _ => RT) .fail (putC o.dst tm v fun tm2 => drawF E code call os (i + 1) (addLoud i loud (lightOf o.op tm)) (⟨i, σ.next, σ'.next, σ'.mods⟩ :: rs) (addLooks i (lightOf o.op tm) lk) tm2 (joinOf (rs.filter fun r => !bm.testBit r.i) σ σ') c) ((σ'.mods.isEmpty || Nat.beq (loud &&& bm) loud) && lookOk bm lk σ'.mods))
          (fun q => xC q.2 tm fun a => optF (evLook E rs bm σ q.1 a) fun vb => valC vb.1 fun v => putC o.dst tm v fun tm => drawF E code call os (i + 1) loud rs (addLook i vb.2 lk) tm σ c) o.op.ld) o.op.loud)
      (putC o.dst tm undefS fun tm => drawF E code call os (i + 1) loud rs lk tm σ c) = .ok r := h
    rw [onWant_eq] at h
    split at h
    · rename_i hw
      cases hl : o.op.loud with
      | false =>
        rw [hl] at h
        have h : opF E code call o.op tm σ (fun v _ => putC o.dst tm v fun tm => drawF E code call os (i + 1) loud rs lk tm σ c) = .ok r := h
        refine Fin.congr (g := fun n => (evOp E o.op (evN E n).1 (evN E n).2 tm σ).bind fun q => evDraw E (evN E n).1 (evN E n).2 os (i + 1) loud rs lk (SAct.put ⟨tm, ds, ro⟩ o.dst q.1) σ) (fun n => by simp only [evDraw, hw, hl]) ?_
        refine Fin.bind (f := fun n q => evDraw E (evN E n).1 (evN E n).2 os (i + 1) loud rs lk (SAct.put ⟨tm, ds, ro⟩ o.dst q.1) σ) (Fin.mono (opF_ok hcode hcall h) fun q hq => ?_)
        have h3 : WD E os (i + 1) loud rs lk (SAct.put ⟨tm, ds, ro⟩ o.dst q.1) σ (fun a σ' => a.defers = ds ∧ a.ro = ro ∧ c a.tm σ' = .ok r) := next _ _ _ _ _ _ hq
        exact h3
      | true =>
        rw [hl] at h
        cases hld : o.op.ld with
        | some q =>
          obtain ⟨agg, x⟩ := q
          rw [hld] at h
          have h : xC x tm (fun a => optF (evLook E rs bm σ agg a) fun vb => valC vb.1 fun v => putC o.dst tm v fun tm => drawF E code call os (i + 1) loud rs (addLook i vb.2 lk) tm σ c) = .ok r := h
          rw [xC_eq] at h
          obtain ⟨⟨v, b⟩, hv, h⟩ := optF_ok h
          simp only at h
          rw [valC_eq] at h
          refine Fin.congr (g := fun n => evDraw E (evN E n).1 (evN E n).2 os (i + 1) loud rs (addLook i b lk) (SAct.put ⟨tm, ds, ro⟩ o.dst v) σ) (fun n => by simp only [evDraw, hw, hl, hld, hv]) ?_
          exact next _ _ _ _ _ _ h
        | none =>
          rw [hld] at h
          have h : opF E code call o.op tm (viewOf (rs.filter fun r => !bm.testBit r.i) σ) (fun v σ' =>
            Bool.rec (motive := fun _ => RT) .fail (putC o.dst tm v fun tm2 => drawF E code call os (i + 1) (addLoud i loud (lightOf o.op tm)) (⟨i, σ.next, σ'.next, σ'.mods⟩ :: rs) (addLooks i (lightOf o.op tm) lk) tm2 (joinOf (rs.filter fun r => !bm.testBit r.i) σ σ') c) ((σ'.mods.isEmpty || Nat.beq (loud &&& bm) loud) && lookOk bm lk σ'.mods)) = .ok r := h
          obtain ⟨q, N, h1, h2⟩ := opF_ok hcode hcall h
          obtain ⟨v, σ'⟩ := q
          simp only at h2
          cases hc : (σ'.mods.isEmpty || Nat.beq (loud &&& bm) loud) && lookOk bm lk σ'.mods with
          | false => rw [hc] at h2; cases h2
          | true =>
            rw [hc] at h2
            obtain ⟨q2, M, h4, h5⟩ := next v _ _ _ _ _ h2
            refine ⟨q2, max N M, fun n hn => ?_, h5⟩
            have h1' := h1 n (by omega)
            have h4' := h4 n (by omega)
            simp only at h1' h4'
            unfold viewOf at h1'
            simp only [evDraw, hw, hl, hld, h1', hc]
            exact h4'
    · rename_i hw
      refine Fin.congr (g := fun n => evDraw E (evN E n).1 (evN E n).2 os (i + 1) loud rs lk (SAct.put ⟨tm, ds, ro⟩ o.dst undefS) σ) (fun n => by simp only [evDraw, hw]) ?_
      exact next _ _ _ _ _ _ h

/-! ### Code -/
include hcall in
theorem rangeGoF_ok {f : SX} {ps : List Nat} {x y : SCode} {tm : T SV} {ds0 : List Nat} {ro : Option Nat} {m : Nat} {ds : List Nat} {σ : SSt} {c : KC} {r : SV × SSt} (h : rangeGoF call f ps x y tm ro m ds σ c = .ok r) :
    Fin (fun n => rangeGo f ps x y (evN E n).2 ⟨tm, ds0, ro⟩ m ds σ) fun q => q.2.1.ro = ro ∧ c q.1 q.2.1.tm q.2.1.defers q.2.2 = .ok r := by
  unfold rangeGoF at h
  split at h
  · rename_i g cs hf
    rw [stC_eq] at h
    refine Fin.congr (g := fun n => ((evN E n).2 g (.yield σ.next :: cs) (σ.alloc (.loop ⟨.ready, none, tm, ps, x, y, m⟩))).bind (rangeEnd σ.next ⟨tm, ds, ro⟩)) (fun n => by simp only [rangeGo, hf]) ?_
    refine Fin.bind (f := fun _ q => rangeEnd σ.next ⟨tm, ds, ro⟩ q) (Fin.mono (hcall _ _ _ _ _ h) fun q hq => ?_)
    obtain ⟨v, σ1⟩ := q
    simp only at hq
    split at hq
    · rename_i e a σ2 he
      refine Fin.pure (r := (e, a, σ2)) (fun _ => he) ⟨?_, hq⟩
      unfold rangeEnd at he
      split at he
      · split at he
        · cases he
        · split at he <;> (cases he; rfl)
      · cases he
    · cases hq
  · cases h
theorem loop_ok {s : SCode} {x : CT} (hx : ∀ tm ds ro σ k r, x tm ds ro σ k = .ok r → WC E s ⟨tm, ds, ro⟩ σ fun e a σ' => a.ro = ro ∧ k e a.tm a.defers σ' = .ok r) :
    ∀ (n : Nat) (tm : T SV) (ds : List Nat) (ro : Option Nat) (σ : SSt) (k : KC) (r : SV × SSt), loopF x n tm ds ro σ k = .ok r → WC E (.loop s) ⟨tm, ds, ro⟩ σ fun e a σ' => a.ro = ro ∧ k e a.tm a.defers σ' = .ok r := by
  intro n
  induction n with
  | zero => intro tm ds ro σ k r h; cases h
  | succ n ih =>
    intro tm ds ro σ k r h
    have h : x tm ds ro σ (kSeq (loopF x n) ro k) = .ok r := h
    refine WC.loop (WC.mono (hx _ _ _ _ _ _ h) fun e a σ' hq => ?_)
    obtain ⟨hro, hq⟩ := hq
    obtain ⟨tm1, ds1, ro1⟩ := a
    simp only at hro hq
    subst hro
    unfold kSeq at hq
    rw [onExit_eq] at hq
    cases e with
    | normal => exact ih _ _ _ _ _ _ hq
    | exit i => exact ⟨rfl, hq⟩
    | ret => exact ⟨rfl, hq⟩
include hcode hcall in
theorem codeF_ok (n : Nat) : CodeFOk E (codeF E n code call) := by
  intro s
  induction s with
  | skip => intro tm ds ro σ k r h; exact WC.skip ⟨rfl, h⟩
  | region ops =>
    intro tm ds ro σ k r h
    refine WC.region (WO.mono (opsF_ok hcode hcall ops tm σ _ r ds ro h) fun a σ' hq => ?_)
    obtain ⟨h1, h2, h3⟩ := hq
    exact ⟨h2, by rw [h1]; exact h3⟩
  | draw ops =>
    intro tm ds ro σ k r h
    refine WC.draw (Fin.mono (drawF_ok hcode hcall ops 0 0 [] [] tm σ _ r ds ro h) fun q hq => ?_)
    obtain ⟨h1, h2, h3⟩ := hq
    exact ⟨h2, by rw [h1]; exact h3⟩
  | seq x y ihx ihy =>
    intro tm ds ro σ k r h
    have h : codeF E n code call x tm ds ro σ (kSeq (codeF E n code call y) ro k) = .ok r := h
    refine WC.seq (WC.mono (ihx _ _ _ _ _ _ h) fun e a σ' hq => ?_)
    obtain ⟨hro, hq⟩ := hq
    obtain ⟨tm1, ds1, ro1⟩ := a
    simp only at hro hq
    subst hro
    unfold kSeq at hq
    rw [onExit_eq] at hq
    cases e with
    | normal => exact ihy _ _ _ _ _ _ hq
    | exit i => exact ⟨rfl, hq⟩
    | ret => exact ⟨rfl, hq⟩
  | cond q x y ihx ihy =>
    intro tm ds ro σ k r h
    have h : xC q tm (fun v => onBool v .fail fun b => Bool.rec (motive := fun _ => RT) (codeF E n code call y tm ds ro σ k) (codeF E n code call x tm ds ro σ k) b) = .ok r := h
    rw [xC_eq] at h
    obtain ⟨b, hb, h⟩ := onBool_ok h
    refine WC.cond hb (fun e => ?_) (fun e => ?_)
    · subst e; exact ihx _ _ _ _ _ _ h
    · subst e; exact ihy _ _ _ _ _ _ h
  | block id x ih =>
    intro tm ds ro σ k r h
    have h : codeF E n code call x tm ds ro σ (kBlock id k) = .ok r := h
    refine WC.block (WC.mono (ih _ _ _ _ _ _ h) fun e a σ' hq => ?_)
    obtain ⟨hro, hq⟩ := hq
    unfold kBlock at hq
    rw [onExit_eq] at hq
    cases e with
    | normal => exact ⟨hro, hq⟩
    | ret => exact ⟨hro, hq⟩
    | exit i =>
      simp only [Blk]
      simp only at hq
      split
      · rename_i e; subst e; rw [Nat.beq_refl] at hq; exact ⟨hro, hq⟩
      · rename_i e; rw [beqF e] at hq; exact ⟨hro, hq⟩
  | loop x ih => intro tm ds ro σ k r h; exact loop_ok ih n tm ds ro σ k r h
  | rangeFunc f ps x y _ _ =>
    intro tm ds ro σ k r h
    have h : rangeF call f ps x y tm ds ro σ k = .ok r := h
    refine WC.of ?_
    unfold rangeF at h
    cases ro with
    | none =>
      simp only at h
      rw [natC_eq, stC_eq] at h
      exact Fin.congr (fun n => rfl) (rangeGoF_ok (E := E) (ds0 := ds) hcall h)
    | some l =>
      simp only at h
      split at h
      · rename_i L hL
        exact Fin.congr (g := fun n => rangeGo f ps x y (evN E n).2 ⟨tm, ds, some l⟩ L.defers ds σ) (fun n => by simp only [evCode, evRange, hL]) (rangeGoF_ok (E := E) (ds0 := ds) hcall h)
      · cases h
  | exit id => intro tm ds ro σ k r h; exact WC.exit ⟨rfl, h⟩
  | scope x ih => intro tm ds ro σ k r h; exact WC.scope (ih _ _ _ _ _ _ h)
  | ret => intro tm ds ro σ k r h; exact WC.ret ⟨rfl, h⟩
  | bad => intro tm ds ro σ k r h; cases h
include hcode in
theorem callF_ok : CallFOk E (callF E code) := by
  intro f args σ k r h
  unfold callF at h
  split at h
  · rename_i g hg
    obtain ⟨v, σ1, h1, h2⟩ := evF1_ok h
    exact WK.spec hg h1 h2
  · rename_i hg
    split at h
    · rename_i x hx
      obtain ⟨v, h1, h2⟩ := vF_ok h
      refine Fin.shift (g := fun n => evCall E (evN E n).1 f args σ) (fun _ => rfl) ?_
      exact Fin.pure (r := (v, σ)) (fun n => by simp only [evCall, hg, hx, h1]) h2
    · rename_i n rs s hx
      rw [layC_eq] at h
      refine WK.code hg hx (WC.mono (hcode _ _ _ _ _ _ _ h) fun e a σ' hq => ?_)
      obtain ⟨_, hq⟩ := hq
      unfold leaveF at hq
      rw [onExit_eq] at hq
      cases e with
      | exit i => cases hq
      | normal =>
        obtain ⟨σ2, h1, h2⟩ := optF_ok hq
        obtain ⟨v, h3, h4⟩ := vF_ok h2
        exact ⟨σ2, v, h1, h3, h4⟩
      | ret =>
        obtain ⟨σ2, h1, h2⟩ := optF_ok hq
        obtain ⟨v, h3, h4⟩ := vF_ok h2
        exact ⟨σ2, v, h1, h3, h4⟩
    · cases h
theorem evF_ok (n : Nat) : CodeFOk E (evF E n).1 ∧ CallFOk E (evF E n).2 := by
  induction n with
  | zero => exact ⟨fun _ _ _ _ _ _ _ h => (by cases h), fun _ _ _ _ _ h => (by cases h)⟩
  | succ n ih => exact ⟨codeF_ok ih.1 ih.2 n, callF_ok ih.1⟩
/-- The faster one's answer is the machine's. -/
theorem ansF_ok {n : Nat} {f : FuncId} {args : List SV} {v : SV} (h : ansF E n f args = some v) : ∃ N, fstOf ((evN E N).2 f args σ0) = some v := by
  unfold ansF at h
  cases hr : (evF E n).2 f args σ0 fun v σ => .ok (v, σ) with
  | fail => rw [hr] at h; cases h
  | any n k => rw [hr] at h; cases h
  | ok r =>
    rw [hr] at h
    simp only [fstOf, Option.some.injEq] at h
    obtain ⟨q, N, h1, h2⟩ := (evF_ok n).2 _ _ _ _ _ hr
    simp only [Ev.ok.injEq] at h2
    refine ⟨N, ?_⟩
    have h3 := h1 N (Nat.le_refl _)
    simp only at h3
    rw [h3]
    simp only [fstOf, Option.some.injEq]
    rw [← h, ← h2]
end
/-- A law that answers true, by the faster one. -/
theorem true_of_ans {P : Program} {E : Env} {w : World} (hfn : FuncsOk ⟨P, E, w.heap.size⟩) (hsp : SpecOk ⟨P, E, w.heap.size⟩) (hss : SpecStp E) (hbase : ∀ b o v, E.base b o = some v → b < w.heap.size ∧ ∃ r, w.cell? ⟨b, o, none⟩ = some r ∧ VR P w.heap.size (World.shp w) (fun _ => none) v r)
    {n : Nat} {f : FuncId} {args : List SV} {rargs : List Value} (hargs : VRs P w.heap.size (World.shp w) (fun _ => none) args rargs) {fn : Func} (hf : P.funcs[f]? = some fn) (hb : fn.body.isSome = true) (hname : fn.name ≠ "runtime.NumGoroutine")
    (he : ansF E n f args = some (.bool true)) : Calls P f rargs.toArray w fun e w' => e = .returned (.bool true) ∧ Go.RowKit.Below w.heap.size w w' := by
  obtain ⟨N, hN⟩ := ansF_ok he
  exact true_of_shadow hfn hsp hss hbase hargs hf hb hname (al_of_fst hN)
end Go.Sh
