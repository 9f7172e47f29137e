/-
  The shadow machine, part Cb: the sum of bytes, walked: whatever the bytes.
-/
import Derived.Test.YthfijonopinghaaGreatDoorShCa
import Derived.Test.YthfijonopinghaaGreatDoorShFb
set_option linter.unusedSimpArgs false
set_option linter.unusedVariables false
namespace Go.Sh
section
noncomputable section
/-- What the sum's code does with one byte. -/
def cvU8 : SV → Option SV
  | .int _ n => some (.int .u8 (wrapF .u8 n))
  | _ => none
def ixT (tb : List SV) : SV → Option SV
  | .int _ n => if 0 ≤ n ∧ n < (256 : Int) then tb[n.toNat]? else none
  | _ => none
def crcStep (tb : List SV) (v x : SV) : Option SV :=
  (binS .shr v (.int .u64 8)).bind fun s => (cvU8 v).bind fun b => (binS .xor b x).bind fun i => (ixT tb i).bind fun t => binS .xor s t
def crcGo (tb : List SV) : List SV → SV → Option SV
  | [], v => some v
  | x :: xs, v => (crcStep tb v x).bind (crcGo tb xs)
theorem crcGo_snoc {tb : List SV} {x : SV} : ∀ (xs : List SV) (v : SV), crcGo tb (xs ++ [x]) v = (crcGo tb xs v).bind fun r => crcStep tb r x
  | [], v => by
    show (crcStep tb v x).bind (fun r => some r) = crcStep tb v x
    cases crcStep tb v x <;> rfl
  | y :: xs, v => by
    show (crcStep tb v y).bind (crcGo tb (xs ++ [x])) = ((crcStep tb v y).bind (crcGo tb xs)).bind _
    cases crcStep tb v y with
    | none => rfl
    | some r => exact crcGo_snoc xs r

def crcBody : SCode := .block 1 (.draw [(⟨some 14, .mem (.load none (.tmp 6)), none⟩, 0), (⟨some 15, .loc (.bin .shr (.tmp 14) (.const (.int .u64 8))), none⟩, 1), (⟨some 16, .mem (.load none (.tmp 6)), none⟩, 0), (⟨some 17, .loc (.convInt .u8 (.tmp 16)), none⟩, 4), (⟨some 18, .loc (.mov (.tmp 7)), none⟩, 0), (⟨some 19, .loc (.bin .xor (.tmp 17) (.tmp 18)), none⟩, 28), (⟨some 20, .loc (.indexArr 256 1 (.tmp 5) (.tmp 19)), none⟩, 60), (⟨some 21, .mem (.load none (.tmp 20)), none⟩, 124), (⟨some 22, .loc (.bin .xor (.tmp 15) (.tmp 21)), none⟩, 255), (⟨none, .mem (.store 1 (.tmp 6) (.tmp 22)), none⟩, 511)])
def crcAssign : SCode := .region [⟨some 7, .loc (.mov (.tmp 13)), none⟩]
def crcCode (ft fv e1 e2 : Nat) (zero : List SV) : SCode :=
  .seq (.region [⟨some 4, .loc (.mov (.const (.int .u32 0))), none⟩]) (.seq (.region [⟨some 8, .call (.func ft) [], none⟩, ⟨some 5, .mem (.alloc e1 zero), none⟩, ⟨none, .mem (.store 256 (.tmp 5) (.tmp 8)), none⟩])
    (.seq (.region [⟨some 9, .loc (.mov (.tmp 0)), none⟩, ⟨some 10, .loc (.bin .xor (.tmp 9) (.const (.int .u32 4294967295))), none⟩, ⟨some 6, .mem (.alloc e2 [.int .u32 0]), none⟩, ⟨none, .mem (.store 1 (.tmp 6) (.tmp 10)), none⟩])
      (.seq (.seq (.region [⟨some 11, .loc (.mov (.tmp 1)), none⟩, ⟨some 12, .call (.func fv) [.tmp 11], none⟩]) (.block 0 (.rangeFunc (.tmp 12) [13] crcAssign crcBody)))
        (.seq (.region [⟨some 23, .mem (.load none (.tmp 6)), none⟩, ⟨some 24, .loc (.bin .xor (.tmp 23) (.const (.int .u32 4294967295))), none⟩, ⟨some 4, .loc (.mov (.tmp 24)), none⟩]) .ret))))
def valsCode (fg e3 : Nat) : SCode :=
  .seq (.region [⟨some 1, .mem (.box e3 (.tmp 0)), none⟩, ⟨some 2, .loc (.mov (.const .nilFunc)), none⟩]) (.seq (.region [⟨some 3, .loc (.mkFunc fg [.tmp 1]), none⟩, ⟨some 2, .loc (.mov (.tmp 3)), none⟩]) .ret)
end
variable {E : Env}
theorem St.head {σ0 σ : SSt} {k : Nat} {d : Ow} {o : SObj} {L : List (Nat × Ow)} (S : St σ0 σ ((k, d) :: L)) : St σ0 (σ.put k (some o)) ((k, .ob o) :: L) := S.put (L1 := []) rfl fun _ h => h
theorem St.perm {σ0 σ : SSt} {L L' : List (Nat × Ow)} (S : St σ0 σ L) (h : L.Perm L') : St σ0 σ L' := ⟨S.wf0, S.ext, fun p hp => S.own p (h.mem_iff.2 hp), (h.pairwise_iff fun h => Ne.symm h).1 S.apart⟩
theorem crcGo_append {tb : List SV} : ∀ (xs ys : List SV) (v : SV), crcGo tb (xs ++ ys) v = (crcGo tb xs v).bind (crcGo tb ys)
  | [], ys, v => rfl
  | x :: xs, ys, v => by
    show (crcStep tb v x).bind (crcGo tb (xs ++ ys)) = ((crcStep tb v x).bind (crcGo tb xs)).bind _
    cases crcStep tb v x with
    | none => rfl
    | some r => exact crcGo_append xs ys r
theorem takeMarks_one {σ : SSt} {m : Nat} (h : σ.heap.get m = some .marker) : takeMarks [m] σ = some (σ.put m none) := by simp only [takeMarks, h]
theorem tb7 : Nat.testBit 511 7 = true := by decide
theorem tb2 : Nat.testBit 511 2 = true := by decide
theorem tb0 : Nat.testBit 511 0 = true := by decide
theorem evRess_tmp {tm : T SV} {σ : SSt} {t : Nat} : evRess E tm σ [.tmp t] = some (evX tm (.tmp t)) := by
  simp only [evRess, evRes, evX]
theorem xor_int {x y v : SV} (h : binS .xor x y = some v) : ∃ k n, v = .int k n := by
  unfold binS at h
  split at h
  · unfold bIntY at h
    split at h
    · simp only [bInt] at h
      split at h
      · simp only [intOp, iXor, Option.some.injEq] at h
        exact ⟨_, _, h.symm⟩
      · cases h
    · cases h
  · unfold bStrY at h
    split at h
    · simp [strOp] at h
    · cases h
  · cases h
theorem step_int {tb : List SV} {v x r : SV} (h : crcStep tb v x = some r) : ∃ k n, r = .int k n := by
  simp only [crcStep, Option.bind_eq_some_iff] at h
  obtain ⟨s, _, b, _, i, _, t, _, h5⟩ := h
  exact xor_int h5
/-- A round. -/
theorem crc_rnd {σ0 σ : SSt} {l m k5 k6 : Nat} {tm : T SV} {tb : List SV} {v x r : SV} {L : List (Nat × Ow)} (htb : tb.length = 256)
    (S : St σ0 σ ([(l, .ob (.loop ⟨.ready, none, tm, [13], crcAssign, crcBody, m⟩)), (k6, .cs [v]), (k5, .cs tb)] ++ L)) (t5 : evX tm (.tmp 5) = .ptr (some ⟨false, k5, 0⟩)) (t6 : evX tm (.tmp 6) = .ptr (some ⟨false, k6, 0⟩)) (h : crcStep tb v x = some r) :
    Rnd E l [x] σ fun q σ' => q = .bool true ∧ St σ0 σ' ([(l, .ob (.loop ⟨.ready, none, tm, [13], crcAssign, crcBody, m⟩)), (k6, .cs [r]), (k5, .cs tb)] ++ L) := by
  obtain ⟨kr, nr, hr⟩ := step_int h
  simp only [crcStep, Option.bind_eq_some_iff] at h
  obtain ⟨s, h1, b, h2, i, h3, t, h4, h5⟩ := h
  have hl : σ.heap.get l = some (.loop ⟨.ready, none, tm, [13], crcAssign, crcBody, m⟩) := S.ob (by simp)
  refine Rnd.of hl rfl ?_
  refine WC.region ?_
  refine WO.loc (v := x) (by simp [go_sem]) ?_
  refine WO.done ?_
  refine ⟨rfl, _, hl, rfl, ?_⟩
  have S1 : St σ0 (σ.put l (some (.loop ⟨.busy, none, tm, [13], crcAssign, crcBody, m⟩))) ([(l, .ob (.loop ⟨.busy, none, tm, [13], crcAssign, crcBody, m⟩)), (k6, .cs [v])] ++ (k5, .cs tb) :: L) :=
    S.head
  show WC E crcBody _ (σ.put l (some (.loop ⟨.busy, none, tm, [13], crcAssign, crcBody, m⟩))) _
  generalize hσ1 : σ.put l (some (.loop ⟨.busy, none, tm, [13], crcAssign, crcBody, m⟩)) = σ1 at S1 ⊢
  clear hσ1
  refine WC.block (WC.draw ?_)
  have hv : rd E σ1 ⟨false, k6, 0⟩ 0 = some v := S1.load (cs := [v]) (by simp) rfl
  refine WD.look (v := v) (b := some k6) (by rw [show evX _ (.tmp 6) = .ptr (some ⟨false, k6, 0⟩) by simp [go_sem, t6]]; exact look_new rfl (rdVar1 hv)) ?_
  refine WD.loc (v := s) (by simp only [evLocal, lBin, evX_set, evX_const, if_true]; exact h1) ?_
  refine WD.look (v := v) (b := some k6) (by rw [show evX _ (.tmp 6) = .ptr (some ⟨false, k6, 0⟩) by simp [go_sem, t6]]; exact look_new rfl (rdVar1 hv)) ?_
  refine WD.loc (v := b) (by simp only [evLocal, lConvInt, evX_set, if_true]; exact h2) ?_
  refine WD.loc (v := x) (by simp [go_sem]) ?_
  refine WD.loc (v := i) (by simp [evLocal, lBin, evX_set]; exact h3) ?_
  obtain ⟨ki, ni, rfl⟩ := xor_int h3
  simp only [ixT] at h4
  split at h4
  · rename_i hi
    refine WD.loc (v := .ptr (some ⟨false, k5, ni.toNat⟩)) (by simp [evLocal, lIndexArr, evX_set, t5, hi, SA.add]) ?_
    refine WD.look (v := t) (b := some k5) (by simp only [evX_set, if_true]; exact look_new rfl (rdVar1 (S1.load (cs := tb) (by simp) h4))) ?_
    refine WD.loc (v := r) (by simp [evLocal, lBin, evX_set]; exact h5) ?_
    refine WD.store (S := St.mk S1.wf0 S1.ext S1.own S1.apart) (k := k6) (o := 0) (v := r) (cs := [v]) (L1 := [(l, .ob (.loop ⟨.busy, none, tm, [13], crcAssign, crcBody, m⟩))]) (L2 := (k5, .cs tb) :: L) (by simp [go_sem, t6]) (by simp [go_sem]) (by subst hr; rfl) (by simp) (by subst hr; rfl) rfl rfl (by intro p hp; simp [addLook] at hp; rcases hp with rfl | rfl | rfl <;> first | exact .inl tb7 | exact .inl tb2 | exact .inl tb0) ?_
    intro σ2 hn S2
    refine WD.done ?_
    refine ⟨⟨.busy, none, tm, [13], crcAssign, crcBody, m⟩, S2.ob (k := l) (by simp), rfl, ?_⟩
    have hcs : r.cells = [r] := by subst hr; rfl
    rw [hcs] at S2
    exact S2.head
  · cases h4
theorem crc_range {fg : Nat} {tb : List SV} (sg : E.spec fg = none) (hg : E.funcs.get fg = some (.code 16 [] valuesCode)) {v0 v1 r : SV} {xs : List SV} {a : Option SA} {n : Nat} {cap : SCap}
    (h1 : crcGo tb xs v0 = some v1) (h2 : binS .xor v1 (.int .u32 4294967295) = some r) (hlen : xs.length = n) (hn : n < 2 ^ 63) (hb : ∀ (i : Nat) (v : SV), xs[i]? = some v → ∃ ad, a = some ad ∧ ∀ σ, rd E σ (ad.add (i * 1)) 0 = some v) (htb : tb.length = 256)
    {σ σ5 : SSt} {kb k5 k6 : Nat} {tm : T SV} (S5 : St σ σ5 ((kb, .cs (SV.slice a n cap).cells) :: ([] ++ [(k6, .cs [v0]), (k5, .cs tb)]))) (t5 : evX tm (.tmp 5) = .ptr (some ⟨false, k5, 0⟩)) (t6 : evX tm (.tmp 6) = .ptr (some ⟨false, k6, 0⟩)) (t12 : evX tm (.tmp 12) = .func fg [.ptr (some ⟨false, kb, 0⟩)]) :
    WC E (.block 0 (.rangeFunc (.tmp 12) [13] crcAssign crcBody)) ⟨tm, [], none⟩ σ5 (Thn E (.seq (.region [⟨some 23, .mem (.load none (.tmp 6)), none⟩, ⟨some 24, .loc (.bin .xor (.tmp 23) (.const (.int .u32 4294967295))), none⟩, ⟨some 4, .loc (.mov (.tmp 24)), none⟩]) .ret) (Lv E [.tmp 4] fun v _ => v = r)) := by
  refine WC.block (WC.range t12 ?_)
  have S6 := S5.alloc (o := .marker) (d := .ob .marker) fun _ h => h
  have S7 := S6.alloc (o := .loop ⟨.ready, none, tm, [13], crcAssign, crcBody, σ5.next⟩) (d := .ob (.loop ⟨.ready, none, tm, [13], crcAssign, crcBody, σ5.next⟩)) fun _ h => h
  have S8 : St σ ((σ5.alloc .marker).alloc (.loop ⟨.ready, none, tm, [13], crcAssign, crcBody, σ5.next⟩)) ([(σ5.next + 1, .ob (.loop ⟨.ready, none, tm, [13], crcAssign, crcBody, σ5.next⟩)), (k6, .cs [v0]), (k5, .cs tb)] ++ [(σ5.next, .ob .marker), (kb, .cs [.slice a n cap])]) :=
    S7.perm (by
      refine List.Perm.cons _ ?_
      exact (List.perm_append_comm (l₁ := [(σ5.next, Ow.ob SObj.marker), (kb, Ow.cs [SV.slice a n cap])]) (l₂ := [(k6, Ow.cs [v0]), (k5, Ow.cs tb)])))
  refine WK.mono (values_wk (vs := xs) (cap := cap) (a := a) (n := n) (I := fun i σ' => ∃ v, crcGo tb (xs.take i) v0 = some v ∧ St σ σ' ([(σ5.next + 1, .ob (.loop ⟨.ready, none, tm, [13], crcAssign, crcBody, σ5.next⟩)), (k6, .cs [v]), (k5, .cs tb)] ++ [(σ5.next, .ob .marker), (kb, .cs [.slice a n cap])])) sg hg hlen hn ?_ ?_ ?_ ⟨v0, rfl, S8⟩) ?_
  · exact S8.load (cs := [.slice a n cap]) (by simp) rfl
  · rintro i σ' v _ hv
    obtain ⟨ad, h3, h4⟩ := hb i v hv
    exact ⟨ad, h3, h4 σ'⟩
  · rintro i σ' v ⟨v', h3, S⟩ hv
    have hx : xs = xs.take i ++ v :: xs.drop (i + 1) := by
      obtain ⟨hi, hv⟩ := List.getElem?_eq_some_iff.1 hv
      rw [← hv, ← List.drop_eq_getElem_cons hi, List.take_append_drop]
    have h4 := h1
    rw [hx, crcGo_append, h3] at h4
    have h5 : (crcStep tb v' v).bind (crcGo tb (xs.drop (i + 1))) = some v1 := h4
    cases hr : crcStep tb v' v with
    | none => rw [hr] at h5; cases h5
    | some q =>
      refine Fin.mono (crc_rnd htb S t5 t6 hr) fun p hp => ⟨hp.1, q, ?_, hp.2⟩
      rw [List.take_add_one, hv]
      show crcGo tb (xs.take i ++ [v]) v0 = some q
      rw [crcGo_snoc, h3]
      exact hr
  · rintro _ σ' ⟨v, h3, S⟩
    rw [← hlen, List.take_length, h1] at h3
    cases h3
    refine ⟨⟨.ready, none, tm, [13], crcAssign, crcBody, σ5.next⟩, S.ob (k := σ5.next + 1) (by simp), by simp, ?_⟩
    refine Blk.n (Thn.n ?_)
    have S9 : St σ (σ'.put (σ5.next + 1) (some (.loop ⟨.exhausted, none, tm, [13], crcAssign, crcBody, σ5.next⟩))) ((σ5.next + 1, .ob (.loop ⟨.exhausted, none, tm, [13], crcAssign, crcBody, σ5.next⟩)) :: ([(k6, .cs [v1]), (k5, .cs tb)] ++ [(σ5.next, .ob .marker), (kb, .cs [.slice a n cap])])) := S.head
    refine WC.seq (WC.region ?_)
    refine WO.load (a := ⟨false, k6, 0⟩) t6 (rdVar1 (S9.load (cs := [v1]) (by simp) rfl)) ?_
    refine WO.loc (v := r) (by simp only [evLocal, lBin, evX_set, evX_const, if_true]; exact h2) ?_
    refine WO.loc (v := r) (by simp [go_sem]) ?_
    refine WO.done (Thn.n (WC.ret ?_))
    have hm := S9.ob (k := σ5.next) (o := .marker) (by simp)
    exact ⟨_, r, takeMarks_one hm, by rw [evRess_tmp]; simp [go_sem], rfl⟩
theorem crc_wk {fc ft fv fg e1 e2 e3 : Nat} {zero tb : List SV} (sc : E.spec fc = none) (sv : E.spec fv = none) (sg : E.spec fg = none) (st : E.spec ft = some (closedSpec (.agg tb))) (hc : E.funcs.get fc = some (.code 25 [.tmp 4] (crcCode ft fv e1 e2 zero)))
    (hv : E.funcs.get fv = some (.code 4 [.tmp 2] (valsCode fg e3))) (hg : E.funcs.get fg = some (.code 16 [] valuesCode)) (hz : zero.length = 256) (htb : tb.length = 256) (htb1 : tb.all SV.one = true) {s v0 v1 r : SV} {xs : List SV} {a : Option SA} {n : Nat} {cap : SCap}
    (h0 : binS .xor s (.int .u32 4294967295) = some v0) (h1 : crcGo tb xs v0 = some v1) (h2 : binS .xor v1 (.int .u32 4294967295) = some r) (hlen : xs.length = n) (hn : n < 2 ^ 63) (hb : ∀ (i : Nat) (v : SV), xs[i]? = some v → ∃ ad, a = some ad ∧ ∀ σ, rd E σ (ad.add (i * 1)) 0 = some v) {σ : SSt} (hw : WF σ) :
    WK E fc [s, .slice a n cap] σ fun v _ => v = r := by
  obtain ⟨k0, n0, hv0⟩ := xor_int h0
  have S := St.init hw
  refine WK.code sc hc ?_
  refine WC.seq (WC.region ?_)
  refine WO.loc (v := .int .u32 0) rfl ?_
  refine WO.done (Thn.n ?_)
  refine WC.seq (WC.region ?_)
  refine WO.call (as := []) rfl (WK.spec (v := .agg tb) (σ1 := σ) st rfl ?_)
  refine WO.alloc S fun σ1 S1 _ => ?_
  refine WO.store (k := σ.next) (o := 0) (v := .agg tb) (cs := zero) (L1 := []) (L2 := []) S1 (by simp [go_sem]) (by simp [go_sem]) htb (by simp [hz]) htb1 fun σ2 hn2 S2 => ?_
  have hcs : (zero.take 0 ++ (SV.agg tb).cells ++ zero.drop (0 + 256)) = tb := by simp [SV.cells, hz]
  rw [hcs] at S2
  refine WO.done (Thn.n ?_)
  refine WC.seq (WC.region ?_)
  refine WO.loc (v := s) (by simp [go_sem]) ?_
  refine WO.loc (v := v0) (by simp [evLocal, lBin, evX_set, evX_const]; exact h0) ?_
  refine WO.alloc S2 fun σ3 S3 _ => ?_
  refine WO.store (k := σ2.next) (o := 0) (v := v0) (cs := [.int .u32 0]) (L1 := []) (L2 := [(σ.next, .cs tb)]) S3 (by simp [go_sem]) (by simp [go_sem]) (by subst hv0; rfl) (by simp) (by subst hv0; rfl) fun σ4 hn4 S4 => ?_
  have hcs2 : ([SV.int .u32 0].take 0 ++ v0.cells ++ [SV.int .u32 0].drop (0 + 1)) = [v0] := by subst hv0; rfl
  rw [hcs2] at S4
  refine WO.done (Thn.n ?_)
  refine WC.seq (WC.seq (WC.region ?_))
  refine WO.loc (v := .slice a n cap) (by simp [go_sem]) ?_
  refine WO.call (as := [.slice a n cap]) (by simp [go_sem]) (WK.code sv hv ?_)
  refine WC.seq (WC.region ?_)
  refine WO.box (v := .slice a n cap) S4 (by simp [go_sem]) rfl fun σ5 S5 _ => ?_
  refine WO.loc (v := .nilFunc) rfl ?_
  refine WO.done (Thn.n ?_)
  refine WC.seq (WC.region ?_)
  refine WO.loc (v := .func fg [.ptr (some ⟨false, σ4.next, 0⟩)]) (by simp [go_sem]) ?_
  refine WO.loc (v := .func fg [.ptr (some ⟨false, σ4.next, 0⟩)]) (by simp [go_sem]) ?_
  refine WO.done (Thn.n ?_)
  refine WC.ret ?_
  refine ⟨σ5, .func fg [.ptr (some ⟨false, σ4.next, 0⟩)], rfl, by rw [evRess_tmp]; simp [go_sem], ?_⟩
  refine WO.done (Thn.n ?_)
  exact crc_range sg hg h1 h2 hlen hn hb htb S5 (by simp [go_sem]) (by simp [go_sem]) (by simp [go_sem])
end
end Go.Sh
