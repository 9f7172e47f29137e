/-
  The shadow machine, part Ca: slices.Values, crc.Add: what they come to, whatever the bytes.
-/
import Derived.Test.YthfijonopinghaaGreatDoorShWb
set_option linter.unusedSimpArgs false
set_option linter.unusedVariables false
namespace Go.Sh
section
variable {E : Env}
theorem loc_indexAddr {tm : T SV} {x i : SX} {size : Nat} {a : SA} {len : Nat} {c : SCap} {k : IntKind} {n : Int} (hx : evX tm x = .slice (some a) len c) (hi : evX tm i = .int k n) (h0 : 0 ≤ n) (h1 : n < (len : Int)) : evLocal (.indexAddr size x i) tm = some (.ptr (some (a.add (n.toNat * size)))) := by
  simp only [evLocal, lIndexAddr, hx, hi]
  rw [if_pos ⟨h0, h1⟩]
theorem wrap_succ {i : Nat} (h : i + 1 < 2 ^ 63) : wrapF .i64 (Int.add (i : Int) 1) = ((i + 1 : Nat) : Int) := by
  rw [wrapF_eq]
  show IntKind.i64.wrap ((i : Int) + 1) = _
  rw [wrap_in]
  · rfl
  · simp only [loK]; omega
  · simp only [hiK]; omega
theorem lt_nat (i n : Nat) : ltI (i : Int) (n : Int) = decide (i < n) := by rw [ltI_eq]; simp

theorem Blk.n {id : Nat} {Q : PostE} {a : SAct} {σ : SSt} (h : Q .normal a σ) : Blk id Q .normal a σ := h
def valuesCode : SCode :=
  .seq (.region [⟨some 5, .mem (.load none (.tmp 1)), none⟩, ⟨some 6, .loc (.len (.tmp 5)), none⟩, ⟨some 7, .loc (.mov (.const (.int .i64 0))), none⟩])
    (.block 0 (.loop (.seq (.region [⟨some 8, .loc (.bin .lss (.tmp 7) (.tmp 6)), none⟩]) (.seq (.cond (.tmp 8) .skip (.exit 0))
      (.seq (.block 1 (.seq (.region [⟨some 9, .loc (.indexAddr 1 (.tmp 5) (.tmp 7)), none⟩, ⟨some 10, .mem (.load none (.tmp 9)), none⟩, ⟨some 4, .loc (.mov (.tmp 10)), none⟩])
        (.seq (.region [⟨some 11, .loc (.mov (.tmp 0)), none⟩, ⟨some 12, .loc (.mov (.tmp 4)), none⟩, ⟨some 13, .call (.tmp 11) [.tmp 12], none⟩, ⟨some 14, .loc (.un .not (.tmp 13)), none⟩]) (.cond (.tmp 14) .ret .skip))))
        (.region [⟨some 15, .loc (.bin .add (.tmp 7) (.const (.int .i64 1))), none⟩, ⟨some 7, .loc (.mov (.tmp 15)), none⟩]))))))
theorem values_wk {f : FuncId} (hs : E.spec f = none) (hf : E.funcs.get f = some (.code 16 [] valuesCode)) {l : Nat} {p : SA} {a : Option SA} {n : Nat} {cap : SCap} {vs : List SV} (hlen : vs.length = n) (hn : n < 2 ^ 63) {σ : SSt} (I : Nat → SSt → Prop)
    (hdr : rd E σ p 0 = some (.slice a n cap)) (elt : ∀ i σ v, I i σ → vs[i]? = some v → ∃ ad, a = some ad ∧ rd E σ (ad.add (i * 1)) 0 = some v) (rnd : ∀ i σ v, I i σ → vs[i]? = some v → Rnd E l [v] σ fun r σ' => r = .bool true ∧ I (i + 1) σ') (h0 : I 0 σ) :
    WK E f [.yield l, .ptr (some p)] σ fun _ σ' => I n σ' := by
  refine WK.code hs hf ?_
  refine WC.seq (WC.region ?_)
  refine WO.load (a := p) (by simp [go_sem]) (rdVar1 hdr) ?_
  refine WO.loc (by simp [go_sem]; rfl) ?_
  refine WO.loc (by simp [go_sem]; rfl) ?_
  refine WO.done ?_
  refine Thn.n ?_
  refine WC.block ?_
  refine WC.loop_ind (I := fun m a0 σ1 => ∃ (i : Nat) (tm : T SV), a0 = ⟨tm, [], none⟩ ∧ i ≤ n ∧ m = n - i ∧ I i σ1 ∧ evX tm (.tmp 0) = .yield l ∧ evX tm (.tmp 5) = .slice a n cap ∧ evX tm (.tmp 6) = .int .i64 n ∧ evX tm (.tmp 7) = .int .i64 (i : Int)) ?_ n _ _ ⟨0, _, rfl, by omega, by omega, h0, by simp [go_sem], by simp [go_sem], by simp [go_sem], by simp [go_sem]⟩
  rintro m a0 σ1 ⟨i, tm, rfl, hi, rfl, hI, t0, t5, t6, t7⟩
  refine WC.seq (WC.region ?_)
  refine WO.loc (by simp [go_sem, t6, t7, lt_nat]; rfl) ?_
  refine WO.done ?_
  refine Thn.n ?_
  refine WC.seq (WC.cond (b := decide (i < n)) (by simp [go_sem]) (fun hb => ?_) (fun hb => ?_))
  · have hlt : i < n := of_decide_eq_true hb
    obtain ⟨v, hv⟩ : ∃ v, vs[i]? = some v := ⟨vs[i]'(by omega), List.getElem?_eq_getElem (by omega)⟩
    obtain ⟨ad, rfl, hrd⟩ := elt i σ1 v hI hv
    refine WC.skip ?_
    refine Thn.n ?_
    refine WC.seq (WC.block ?_)
    refine WC.seq (WC.region ?_)
    refine WO.loc (loc_indexAddr (a := ad) (len := n) (c := cap) (k := .i64) (n := (i : Int)) (by simp [go_sem, t5]) (by simp [go_sem, t7]) (by omega) (by omega)) ?_
    refine WO.load (a := ad.add (i * 1)) (by simp [go_sem]) (rdVar1 hrd) ?_
    refine WO.loc (by simp [go_sem]; rfl) ?_
    refine WO.done ?_
    refine Thn.n ?_
    refine WC.seq (WC.region ?_)
    refine WO.loc (v := .yield l) (by simp [go_sem, t0]) ?_
    refine WO.loc (v := v) (by simp [go_sem]) ?_
    refine WO.on rfl (WP.yield (l := l) (as := [v]) (by simp [go_sem]) (by simp [go_sem]) ?_)
    refine Fin.mono (rnd i σ1 v hI hv) fun r hr => ?_
    obtain ⟨hr1, hr2⟩ := hr
    obtain ⟨r1, σ2⟩ := r
    simp only at hr1 hr2
    subst hr1
    refine WO.loc (v := .bool false) (by simp [go_sem, SAct.put]) ?_
    refine WO.done ?_
    refine Thn.n ?_
    refine WC.cond (b := false) (by simp [go_sem]) (fun hb => by cases hb) (fun _ => ?_)
    refine WC.skip ?_
    refine Blk.n (Thn.n ?_)
    refine WC.region ?_
    refine WO.loc (v := .int .i64 ((i + 1 : Nat) : Int)) (by simp only [SAct.put]; simp [go_sem, t7]; exact wrap_succ (by omega)) ?_
    refine WO.loc (v := .int .i64 ((i + 1 : Nat) : Int)) (by simp [go_sem]) ?_
    refine WO.done ?_
    exact ⟨n - (i + 1), by omega, i + 1, _, rfl, by omega, rfl, hr2, by simp [go_sem, t0, SAct.put], by simp [go_sem, t5, SAct.put], by simp [go_sem, t6, SAct.put], by simp [go_sem]⟩
  · have hge : ¬ i < n := of_decide_eq_false hb
    obtain rfl : i = n := by omega
    refine WC.exit ?_
    exact ⟨σ1, .tuple [], rfl, rfl, hI⟩
end
end Go.Sh
