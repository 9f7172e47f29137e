/-
  The shadow machine, part S: regions without order: in every order.
-/
import Derived.Test.YthfijonopinghaaGreatDoorShR
set_option linter.unusedSimpArgs false
set_option linter.unusedVariables false
namespace Go.Sh
section
variable {C : Cx} {N n : Nat} {ops : Array Oper} {code : CodeF} {call : CallF} {so : Nat → SOper} {bm : Nat → Nat} {st : Nat → DS} {v : Nat → SV} {out : Nat → Option SSt} {ρ0 : Ren} {w0 : World} {ra0 : Act} {hi : Nat}

theorem compOper_op {P : Program} {M : Nat} {o : Oper} {s : SOper} (hc : compOper P M ops o = some s) : s.op = (compOp P o).getD (.mem .bad) := by
  unfold compOper at hc
  split at hc
  · split at hc
    · cases hc; rfl
    · split at hc
      · cases hc; rfl
      · cases hc
  · cases hc
theorem SAct.put_defers (a : SAct) (dst : Option Nat) (x : SV) : (a.put dst x).defers = a.defers := by cases dst <;> rfl
theorem Run.defers (R : Run C.E code call n so bm st v out) {i : Nat} (hi : i ≤ n) : (st i).a.defers = (st 0).a.defers ∧ (st i).a.ro = (st 0).a.ro := by
  induction i with
  | zero => exact ⟨rfl, rfl⟩
  | succ i ih => rw [R.act (show i < n by omega), SAct.put_defers, SAct.put_ro]; exact ih (by omega)
/-- All have been carried out. -/
theorem DInv.done (R : Run C.E code call n so bm st v out) {listed : Array Bool} {ρ : Ren} {w : World} {ra : Act} (I : DInv C N n so bm st v out ρ0 w0 ra0 listed ρ w ra) (hall : ∀ j, j < n → LS n listed j) (hd : DfR ρ0 (st 0).a.defers ra0.defers) :
    Ok C ρ0 (st 0).σ w0 ρ (st n).σ w ∧ ActR C ρ w N (st n).a ra := by
  obtain ⟨σS, hS, himg, hsim⟩ := I.heap
  have hget : ∀ k, σS.heap.get k = (st n).σ.heap.get k := by
    intro k
    rcases R.heaps (Nat.le_refl n) k with ⟨j, σ1, h1, h2, h3, h4, h5⟩ | ⟨h1, h2⟩
    · rcases hS k with ⟨i, σ2, h6, h7, h8, h9, h10⟩ | ⟨h6, _⟩
      · have h11 := h9 j (hall j h1) h3
        have h12 := h4 i h6.1 h8
        have : i = j := by omega
        subst this
        rw [h2] at h7
        cases h7
        rw [h10, h5]
      · exact absurd h3 (h6 j (hall j h1))
    · rcases hS k with ⟨i, σ2, h6, h7, h8, h9, h10⟩ | ⟨_, h6⟩
      · exact absurd h8 (h1 i h6.1)
      · rw [h6, h2]
  refine ⟨⟨I.ext, fun k hk => ?_, fun k o b off hg hr => himg k o b off (by rw [hget]; exact hg) hr, hsim.sub (fun k o hk => by rw [hget]; exact hk), I.fr, R.next (Nat.zero_le _) (Nat.le_refl _)⟩, ⟨fun t => ?_, I.tmps, ?_⟩⟩
  · obtain ⟨i, σ1, h1, h2, h3, h4⟩ := I.only k hk
    have h5 := R.next (Nat.zero_le i) (Nat.le_of_lt h1.1)
    have h6 := R.next (show i + 1 ≤ n from h1.1) (Nat.le_refl _)
    have h7 := (R.out_next h1.1 h2).2
    omega
  · rcases R.tms (Nat.le_refl n) t with ⟨j, h1, h2, h3, h4⟩ | ⟨h1, h2⟩
    · rcases I.tm t with ⟨i, h5, h6, h7, h8⟩ | ⟨h5, _⟩
      · have h9 := h7 j (hall j h1) h2
        have h10 := h3 i h5.1 h6
        have : i = j := by omega
        subst this
        rw [h4]; exact h8
      · exact absurd h2 (h5 j (hall j h1))
    · rcases I.tm t with ⟨i, h5, h6, _, _⟩ | ⟨_, h5⟩
      · exact absurd h6 (h1 i h5.1)
      · rw [h2]; exact h5
  · rw [(R.defers (Nat.le_refl n)).1, I.defers]
    exact hd.mono I.ext
/-- A state of which some blocks alone are kept. -/
noncomputable def restr (ks : List Nat) (σ : SSt) : SSt := { σ with heap := ks.foldl (fun t k => t.set k (σ.heap.get k)) .e }
theorem restr_get {ks : List Nat} {σ : SSt} {k : Nat} {o : SObj} (h : (restr ks σ).heap.get k = some o) : k ∈ ks ∧ σ.heap.get k = some o := by
  have key : ∀ (ks : List Nat) (t : T SObj), (ks.foldl (fun t k => t.set k (σ.heap.get k)) t).get k = some o → (k ∈ ks ∧ σ.heap.get k = some o) ∨ t.get k = some o := by
    intro ks
    induction ks with
    | nil => intro t h; exact .inr h
    | cons j ks ih =>
      intro t h
      rcases ih _ h with ⟨h1, h2⟩ | h1
      · exact .inl ⟨List.mem_cons_of_mem _ h1, h2⟩
      · rw [T.get_set] at h1
        split at h1
        · rename_i hk
          subst hk
          exact .inl ⟨List.mem_cons_self, h1⟩
        · exact .inr h1
  rcases key ks .e h with h1 | h1
  · exact h1
  · cases h1
theorem newCells_get (σ : SSt) (e : TypeId) (cs : List SV) : (σ.newCells e cs).heap.get σ.next = some (.cells (T.e.putList 0 cs) cs.length e) := T.get_set_same _ _ _
/-- An operation that looks at some blocks alone does the same where they alone are. -/
theorem light_sound {E : Env} {code : CodeF} {call : CallF} {o : SOp} {tm : T SV} {ks : List Nat} {σ σ1 : SSt} {v : SV} (hl : lightOf o tm = some ks) (hwf : WF σ) (hmk : σ.mark = σ.next) (hmd : σ.mods = []) (he : evOp E o code call tm σ = .ok (v, σ1)) :
    ∃ σ1v, evOp E o code call tm (restr ks σ) = .ok (v, σ1v) ∧ σ1v.next = σ1.next ∧ (∀ k, ((σ.next ≤ k ∧ k < σ1.next) ∨ k ∈ σ1.mods) → σ1.heap.get k = σ1v.heap.get k) ∧ (∀ k o, ¬ ((σ.next ≤ k ∧ k < σ1.next) ∨ k ∈ σ1.mods) → (restr ks σ).heap.get k = some o → σ1v.heap.get k = some o) := by
  -- one that makes a block
  have mk : ∀ (e : TypeId) (cs : List SV), ks = [] → σ1 = σ.newCells e cs → (∀ k, ((σ.next ≤ k ∧ k < σ1.next) ∨ k ∈ σ1.mods) → σ1.heap.get k = ((restr ks σ).newCells e cs).heap.get k) ∧ (∀ k o, ¬ ((σ.next ≤ k ∧ k < σ1.next) ∨ k ∈ σ1.mods) → (restr ks σ).heap.get k = some o → ((restr ks σ).newCells e cs).heap.get k = some o) := by
    rintro e cs rfl rfl
    refine ⟨fun k hk => ?_, fun k o hk hg => by cases hg⟩
    rcases hk with hk | hk
    · have hk2 : k < σ.next + 1 := hk.2
      obtain rfl : k = σ.next := by omega
      have h1 : (σ.newCells e cs).heap.get σ.next = some (.cells (T.e.putList 0 cs) cs.length e) := T.get_set_same _ _ _
      have h2 : ((restr [] σ).newCells e cs).heap.get σ.next = some (.cells (T.e.putList 0 cs) cs.length e) := newCells_get (restr [] σ) e cs
      exact h1.trans h2.symm
    · have hk : k ∈ σ.mods := hk
      rw [hmd] at hk; cases hk
  cases o with
  | loc l => cases hl
  | call f args => cases hl
  | mem m =>
    cases m <;> simp only [lightOf, reduceCtorEq, Option.some.injEq] at hl
    case alloc elem zero =>
      simp only [evOp, oMem, evMem, mAlloc, Ev.ok.injEq, Prod.mk.injEq] at he
      obtain ⟨rfl, rfl⟩ := he
      obtain ⟨h1, h2⟩ := mk elem zero hl.symm rfl
      exact ⟨(restr ks σ).newCells elem zero, rfl, rfl, h1, h2⟩
    case box elem x =>
      simp only [evOp, oMem, evMem, mBox] at he ⊢
      split at he
      · rename_i hone
        simp only [Ev.ok.injEq, Prod.mk.injEq] at he
        obtain ⟨rfl, rfl⟩ := he
        obtain ⟨h1, h2⟩ := mk elem (evX tm x).cells hl.symm rfl
        exact ⟨(restr ks σ).newCells elem (evX tm x).cells, rfl, rfl, h1, h2⟩
      · cases he
    case buildSlice elem size len zero parts =>
      simp only [evOp, oMem, evMem, mBuildSlice] at he ⊢
      split at he
      · cases he
      · rename_i cs hcs
        split at he
        · rename_i hone
          simp only [Ev.ok.injEq, Prod.mk.injEq] at he
          obtain ⟨rfl, rfl⟩ := he
          obtain ⟨h1, h2⟩ := mk elem cs hl.symm rfl
          exact ⟨(restr ks σ).newCells elem cs, rfl, rfl, h1, h2⟩
        · cases he
    case store size x vx =>
      split at hl
      · rename_i ad had
        split at hl
        · cases hl
        · rename_i hbase
          simp only [Option.some.injEq] at hl
          subst hl
          simp only [evOp, oMem, evMem, mStore, had] at he ⊢
          split at he
          · rename_i hsz
            split at he
            · rename_i σ' hw
              simp only [Ev.ok.injEq, Prod.mk.injEq] at he
              obtain ⟨rfl, rfl⟩ := he
              unfold wr at hw
              rw [hbase] at hw
              simp only at hw
              split at hw
              · rename_i t n e hg
                split at hw
                · rename_i hc
                  simp only [Option.some.injEq] at hw
                  subst hw
                  have hgr : (restr [ad.blk] σ).heap.get ad.blk = some (.cells t n e) := by
                    have : (restr [ad.blk] σ).heap.get ad.blk = σ.heap.get ad.blk := by
                      show ((T.e : T SObj).set ad.blk (σ.heap.get ad.blk)).get ad.blk = _
                      exact T.get_set_same _ _ _
                    rw [this, hg]
                  have hw2 : wr (restr [ad.blk] σ) ad (evX tm vx).cells = some ((restr [ad.blk] σ).put ad.blk (some (.cells (t.putList ad.off (evX tm vx).cells) n e))) := by
                    unfold wr
                    rw [hbase]
                    simp only [hgr]
                    rw [if_pos hc]
                  refine ⟨(restr [ad.blk] σ).put ad.blk (some (.cells (t.putList ad.off (evX tm vx).cells) n e)), by rw [hw2], rfl, fun k hk => ?_, fun k o hk hgk => ?_⟩
                  · have hkb : k = ad.blk := by
                      rcases hk with hk | hk
                      · have h1 : k < σ.next := hk.2
                        omega
                      · have hk : k ∈ (match Nat.blt ad.blk σ.mark with | true => ad.blk :: σ.mods | false => σ.mods) := hk
                        rw [hmd] at hk
                        split at hk
                        · simpa using hk
                        · cases hk
                    subst hkb
                    have h1 : (σ.put ad.blk (some (.cells (t.putList ad.off (evX tm vx).cells) n e))).heap.get ad.blk = some (.cells (t.putList ad.off (evX tm vx).cells) n e) := by
                      show (T.set _ ad.blk _).get ad.blk = _
                      exact T.get_set_same _ _ _
                    have h2 : ((restr [ad.blk] σ).put ad.blk (some (.cells (t.putList ad.off (evX tm vx).cells) n e))).heap.get ad.blk = some (.cells (t.putList ad.off (evX tm vx).cells) n e) := by
                      show (T.set _ ad.blk _).get ad.blk = _
                      exact T.get_set_same _ _ _
                    exact h1.trans h2.symm
                  · exfalso
                    obtain ⟨h1, _⟩ := restr_get hgk
                    simp only [List.mem_singleton] at h1
                    subst h1
                    refine hk (.inr ?_)
                    have hlt : ad.blk < σ.mark := by
                      rw [hmk]
                      rcases Nat.lt_or_ge ad.blk σ.next with h | h
                      · exact h
                      · rw [hwf.2 _ h] at hg; cases hg
                    show ad.blk ∈ (match Nat.blt ad.blk σ.mark with | true => ad.blk :: σ.mods | false => σ.mods)
                    rw [bltT hlt]
                    exact List.mem_cons_self
                · cases hw
              · cases hw
            · cases he
          · cases he
      · cases hl
theorem compOp_load {P : Program} {o : Oper} {agg : Option Nat} {x : SX} (h : compOp P o = some (.mem (.load agg x))) : ∃ t x0, o.op = .load t x0 ∧ aggT P t = some agg ∧ compX x0 = some x := by
  unfold compOp at h
  split at h
  case h_8 t x0 ho =>
    split at h
    · rename_i a sx ha hx
      cases h
      exact ⟨t, x0, ho, ha, hx⟩
    · cases h
  all_goals (repeat' split at h)
  all_goals (first | (cases h; done) | (simp at h; done))
theorem rd_congr {E : Env} {σ σ' : SSt} {a : SA} (h : a.base = true ∨ σ'.heap.get a.blk = σ.heap.get a.blk) (i : Nat) : rd E σ' a i = rd E σ a i := by
  unfold rd
  cases hb : a.base with
  | true => rfl
  | false =>
    rcases h with h | h
    · rw [hb] at h; cases h
    · simp only; rw [h]
theorem rdL_congr {E : Env} {σ σ' : SSt} {a : SA} (h : a.base = true ∨ σ'.heap.get a.blk = σ.heap.get a.blk) : ∀ (n i : Nat), rdL E σ' a i n = rdL E σ a i n
  | 0, i => rfl
  | n + 1, i => by simp only [rdL, rd_congr h, rdL_congr h n]
theorem rdVar_congr {E : Env} {σ σ' : SSt} {a : SA} (h : a.base = true ∨ σ'.heap.get a.blk = σ.heap.get a.blk) (agg : Option Nat) : rdVar E σ' agg a = rdVar E σ agg a := by
  cases agg <;> simp only [rdVar, rd_congr h, rdL_congr h]
theorem Rc.tchB_iff (r : Rc) (k : Nat) : r.tchB k = true ↔ r.tch k := by
  unfold Rc.tchB Rc.tch
  simp only [Bool.or_eq_true, Bool.and_eq_true, List.contains_iff_mem, Nat.ble_eq, Nat.blt_eq]
/-- A load, whenever it is carried out. -/
theorem look_sound {listed : Array Bool} {ρ : Ren} {w : World} {ra : Act} {i : Nat} (hi : i < n) (hnl : ¬ LS n listed i) (hb : ∀ j, (bm i).testBit j = true → LS n listed j)
    (R : Run C.E code call n so bm st v out) (I : DInv C N n so bm st v out ρ0 w0 ra0 listed ρ w ra) {σS : SSt}
    (hS : ∀ k, (∃ i σ1, LS n listed i ∧ out i = some σ1 ∧ touch st out i k ∧ (∀ j, LS n listed j → touch st out j k → j ≤ i) ∧ σS.heap.get k = σ1.heap.get k) ∨ ((∀ i, LS n listed i → ¬ touch st out i k) ∧ σS.heap.get k = (st 0).σ.heap.get k))
    (hsim : Sim C ρ σS w) {t : TypeId} {agg : Option Nat} (hat : aggT C.P t = some agg) {x : SX} {rx : Value} (hx : VR C.P C.B (World.shp w) ρ (evX (st i).a.tm x) rx) (hw : wantedS (st i).a.tm (so i).guard = true) (hop : (so i).op = .mem (.load agg x)) {u : SV} {b : Option Nat}
    (hv : evLook C.E (st i).rs (bm i) (st i).σ agg (evX (st i).a.tm x) = some (u, b)) : ∃ rv, (Instr.loadAt t rx).run C.P w = .ok rv w ∧ VR C.P C.B (World.shp w) ρ u rv := by
  have hv0 := hv
  unfold evLook at hv
  split at hv
  · rename_i ad had
    rw [had] at hx
    obtain ⟨r, rfl, har⟩ := vr_ptr hx
    -- from a state of which the world holds what is read
    have fin : ∀ σr : SSt, Sim C ρ σr w → rdVar C.E σr agg ad = some u → ∃ rv, (Instr.loadAt t (.pointer (some r))).run C.P w = .ok rv w ∧ VR C.P C.B (World.shp w) ρ u rv := by
      intro σr hs hr
      obtain ⟨rv, h1, h2⟩ := rdVar_sound hs har hat hr
      exact ⟨rv, by simp [Instr.loadAt, Instr.sureAddr, Sem.run_bind, h1], h2⟩
    split at hv
    · rename_i hbase
      split at hv
      · rename_i v' hr
        cases hv
        refine fin ⟨T.e, 0, 0, []⟩ (hsim.sub fun k o hk => by cases hk) ?_
        rw [← hr]
        exact rdVar_congr (.inl hbase) agg
      · cases hv
    · rename_i hbase
      split at hv
      · cases hv
      · rename_i hany
        split at hv
        · rename_i v' hr
          cases hv
          refine fin ⟨(T.e).set ad.blk ((st i).σ.heap.get ad.blk), 0, 0, []⟩ (hsim.sub fun k o hk => ?_) ?_
          · simp only [T.get_set] at hk
            split at hk
            · rename_i hkb
              subst hkb
              have hkn : ad.blk < (st i).σ.next := by
                rcases Nat.lt_or_ge ad.blk (st i).σ.next with h | h
                · exact h
                · rw [(R.wfs (Nat.le_of_lt hi)).2 _ h] at hk; cases hk
              have early : ∀ j, LS n listed j → touch st out j ad.blk → j < i := by
                intro j hj ht
                rcases Nat.lt_trichotomy j i with h | h | h
                · exact h
                · subst h; exact absurd hj hnl
                · obtain ⟨σ1, ho, h1⟩ := ht
                  rcases h1 with h1 | h1
                  · have := R.next (Nat.le_of_lt h) (Nat.le_of_lt hj.1)
                    omega
                  · have h2 := R.lks (Nat.le_of_lt hj.1) i ad.blk h agg x hw hop _ hv0
                    exact absurd (I.closed j hj i (R.looked hj.1 h2 ho h1)) hnl
              have hvis : ∀ j, j < i → (bm i).testBit j = false → ¬ touch st out j ad.blk := by
                intro j hj hbit ht
                obtain ⟨h1, h2⟩ := R.recs (Nat.le_of_lt hi)
                obtain ⟨rc, h3, h4⟩ := h2 j hj (by obtain ⟨σ1, ho, _⟩ := ht; rw [ho]; rfl)
                have h5 := List.any_eq_false.1 hany rc h3
                rw [h4, hbit] at h5
                simp only [Bool.not_false, Bool.true_and] at h5
                exact h5 ((Rc.tchB_iff rc ad.blk).2 ((h1 rc h3).2 ad.blk |>.2 (by rw [h4]; exact ht)))
              rcases R.heaps (Nat.le_of_lt hi) ad.blk with ⟨j, σ1, h1, h2, h3, h4, h5⟩ | ⟨h1, h2⟩
              · have hj : LS n listed j := by
                  refine hb j ?_
                  cases hbit : (bm i).testBit j with
                  | true => rfl
                  | false => exact absurd h3 (hvis j h1 hbit)
                rcases hS ad.blk with ⟨i', σ2, h6, h7, h8, h9, h10⟩ | ⟨h6, _⟩
                · have h11 := h9 j hj h3
                  have h12 := h4 i' (early i' h6 h8) h8
                  have : i' = j := by omega
                  subst this
                  rw [h2] at h7
                  cases h7
                  rw [h10, ← h5]
                  exact hk
                · exact absurd h3 (h6 j hj)
              · rcases hS ad.blk with ⟨i', σ2, h6, h7, h8, h9, h10⟩ | ⟨_, h6⟩
                · exact absurd h8 (h1 i' (early i' h6 h8))
                · rw [h6, ← h2]; exact hk
            · cases hk
          · rw [← hr]
            refine rdVar_congr (.inr ?_) agg
            show ((T.e : T SObj).set ad.blk ((st i).σ.heap.get ad.blk)).get ad.blk = _
            exact T.get_set_same _ _ _
        · cases hv
  · cases hv
theorem draw_any (hcode : CodeOk C code) (hcall : CallOk C call) (R : Run C.E code call n so bm st v out) (hn : n = ops.size) (hso : ∀ i o, ops[i]? = some o → compOper C.P N ops o = some (so i)) (hbm : ∀ i, bm i = (Region.before ops).getD i 0) (hord : inOrder ops = true) (hap : apartAll ops (Region.before ops) = true)
    (ro : Option Nat) (hf : Free ρ0 (st 0).σ hi) (hnx : (st n).σ.next ≤ hi) (hd : DfR ρ0 (st 0).a.defers ra0.defers) {Q2 : Exit → Act → World → Prop} (hQ : ∀ ρ w ra, Ok C ρ0 (st 0).σ w0 ρ (st n).σ w → ActR C ρ w N (st n).a ra → Q2 .normal ra w) :
    ∀ (fuel : Nat) (listed : Array Bool) (ρ : Ren) (w : World) (ra : Act) (l : List Nat), l.length ≤ fuel → (∀ j, j < n → ¬ LS n listed j → j ∈ l) → DInv C N n so bm st v out ρ0 w0 ra0 listed ρ w ra → wpAnyIn (FW ro) 0 C.P .any ops Q2 fuel listed ra w := by
  have hop : ∀ j, j < n → ∃ x, ops[j]? = some x := fun j hj => ⟨ops[j]'(by omega), by simp⟩
  have notLS : ∀ {listed : Array Bool} {j : Nat}, listed.getD j true = false → ¬ LS n listed j := fun h hl => by rw [hl.2] at h; cases h
  have mkLS : ∀ {listed : Array Bool} {j : Nat}, listed.size = n → listed.getD j false = true → LS n listed j := by
    intro listed j hs h
    rcases Nat.lt_or_ge j listed.size with hlt | hge
    · refine ⟨by omega, ?_⟩
      rw [Array.getD_eq_getD_getElem?] at h ⊢
      rw [Array.getElem?_eq_getElem hlt] at h ⊢
      exact h
    · rw [Array.getD_eq_getD_getElem?, Array.getElem?_eq_none hge] at h
      cases h
  intro fuel
  induction fuel with
  | zero =>
    intro listed ρ w ra l hl hcov I
    have hl0 : l = [] := by cases l with
      | nil => rfl
      | cons => simp at hl
    subst hl0
    have hall : ∀ j, j < n → LS n listed j := fun j hj => Classical.byContradiction fun h => by cases hcov j hj h
    refine ⟨?_, ?_⟩
    · cases hr : Region.ready .any ops listed with
      | nil => rfl
      | cons j rest =>
        have hj : j ∈ Region.ready .any ops listed := by rw [hr]; exact List.mem_cons_self
        obtain ⟨h1, o, h2, _⟩ := mem_ready.1 hj
        have hlt : j < n := by rw [hn]; exact (Array.getElem?_eq_some_iff.1 h2).1
        exact absurd (hall j hlt) (notLS h1)
    · obtain ⟨h1, h2⟩ := I.done R hall hd
      exact hQ ρ w ra h1 h2
  | succ fuel ih =>
    intro listed ρ w ra l hl hcov I
    refine ⟨fun hr => ?_, fun i hi => ?_⟩
    · have hall : ∀ j, j < n → LS n listed j := by
        intro j
        induction j using Nat.strongRecOn with
        | _ j ihj =>
          intro hj
          refine Classical.byContradiction fun hnl => ?_
          obtain ⟨o, ho⟩ := hop j hj
          have hmem : j ∈ Region.ready .any ops listed := by
            refine mem_ready.2 ⟨?_, o, ho, fun e he hb => ?_⟩
            · cases hg : listed.getD j true with
              | false => rfl
              | true => exact absurd ⟨hj, hg⟩ hnl
            · have hlt := inOrder_spec hord ho e he hb
              have h1 := ihj e.on hlt (by omega)
              have h2 := h1.2
              have h3 : e.on < listed.size := by rw [I.size]; exact h1.1
              rw [Array.getD_eq_getD_getElem?, Array.getElem?_eq_getElem h3] at h2 ⊢
              exact h2
          rw [hr] at hmem
          cases hmem
      obtain ⟨h1, h2⟩ := I.done R hall hd
      exact hQ ρ w ra h1 h2
    · obtain ⟨h1, o, ho, hedge⟩ := mem_ready.1 hi
      have hlt : i < n := by rw [hn]; exact (Array.getElem?_eq_some_iff.1 ho).1
      have hnl := notLS h1
      have hb : ∀ j, (bm i).testBit j = true → LS n listed j := by
        intro j hj
        rw [hbm] at hj
        obtain ⟨o', e, h2, h3, h4, h5⟩ := before_spec hj
        rw [ho] at h2
        cases h2
        have h6 := mkLS I.size (hedge e h3 h4)
        rcases h5 with rfl | h5
        · exact h6
        · exact I.closed e.on h6 j (by rw [hbm]; exact h5)
      have hlook : ∀ t, t ∈ o.looksAt ops → VR C.P C.B (World.shp w) ρ (getT (st i).a.tm t) (ra.tmps.getD t undef) := fun t ht => DInv.look hlt hnl hb ho ht R hn hso hbm hap I
      obtain ⟨hg, hdst, hdn⟩ := compOper_parts (hso i o ho)
      have hwant : Region.wanted o (yielded ops ra.tmps) = wantedS (st i).a.tm (so i).guard := by
        refine wanted_sound hg fun d b hdb => hlook d ?_
        rw [hdb] at hg
        unfold compGuard at hg
        unfold Oper.looksAt
        split at hg
        · cases hg
        · rename_i j b' hgd
          rw [hgd]
          split at hg
          · rename_i d' hd'
            cases hg
            simp [hd']
          · cases hg
      have hX : XR C.P C.B (World.shp w) ρ (st i).a.tm ra.eval o.op.operands := by
        intro x sx hx hc
        cases x with
        | tmp t =>
          simp only [compX, Option.some.injEq] at hc
          subst hc
          refine hlook t (List.mem_append_left _ (List.mem_filterMap.2 ⟨.tmp t, by simpa using hx, rfl⟩))
        | const c =>
          simp only [compX, Option.map_eq_some_iff] at hc
          obtain ⟨s, hs, rfl⟩ := hc
          exact cval_sound hs
        | global g =>
          simp only [compX, Option.some.injEq] at hc
          subst hc
          exact .ptr ⟨rfl, rfl, rfl⟩
        | func f =>
          simp only [compX, Option.some.injEq] at hc
          subst hc
          exact VR.func f (rs := []) .nil
      have hcov' : ∀ j, j < n → ¬ LS n (listed.setIfInBounds i true) j → j ∈ l.erase i := by
        intro j hj hnj
        have h2 : ¬ LS n listed j := fun h => hnj ((LS.set I.size hlt).2 (.inl h))
        have h3 : j ≠ i := fun h => hnj ((LS.set I.size hlt).2 (.inr h))
        exact (List.mem_erase_of_ne h3).2 (hcov j hj h2)
      have hl' : (l.erase i).length ≤ fuel := by
        have := List.length_erase_of_mem (hcov i hlt hnl)
        omega
      have hopeq : (so i).op = (compOp C.P o).getD (.mem .bad) := compOper_op (hso i o ho)
      unfold wpOpIn
      rw [ho]
      simp only
      rw [hwant]
      cases R.step i hlt with
      | off hw hv hout hs =>
        rw [if_neg (by rw [hw]; simp)]
        exact ⟨fun f _ => FW_fn _ _, ih _ ρ w _ _ hl' hcov' (I.still hlt hnl hb hn ho hout hso hbm hap (by rw [hv]; exact VR.undef))⟩
      | quiet hw lo hlo hv hout hs =>
        rw [if_pos hw]
        refine ⟨fun f _ => FW_fn _ _, ?_⟩
        have hco : compOp C.P o = some (.loc lo) := by
          rw [hlo] at hopeq
          cases hc : compOp C.P o with
          | none => rw [hc] at hopeq; cases hopeq
          | some s => rw [hc] at hopeq; simp only [Option.getD_some] at hopeq; rw [hopeq]
        rw [FW_round, Oper.semAt_eq ro ra.eval o (compOp_defer hco)]
        obtain ⟨rv, h2, h3⟩ := loc_sound hX hco hv w
        rw [h2, Oper.uponIn_value]
        exact ih _ ρ w _ _ hl' hcov' (I.still hlt hnl hb hn ho hout hso hbm hap h3)
      | look hw agg x hl2 b hv hout hs =>
        rw [if_pos hw]
        refine ⟨fun f _ => FW_fn _ _, ?_⟩
        have hco : compOp C.P o = some (.mem (.load agg x)) := by
          rw [hl2] at hopeq
          cases hc : compOp C.P o with
          | none => rw [hc] at hopeq; cases hopeq
          | some s => rw [hc] at hopeq; simp only [Option.getD_some] at hopeq; rw [hopeq]
        obtain ⟨σS, hS, himg, hsim⟩ := I.heap
        obtain ⟨t, x0, hop0, hat, hx0⟩ := compOp_load hco
        rw [hop0] at hX
        have hxv := hX x0 x (by simp [Op.operands]) hx0
        obtain ⟨rv, h2, h3⟩ := look_sound hlt hnl hb R I hS hsim hat hxv hw hl2 hv
        rw [FW_round, Oper.semAt_eq ro ra.eval o (compOp_defer hco)]
        have h4 : (execOp ra.eval o).run C.P w = .ok (.value rv) w := by
          simp [execOp, hop0, Sem.run_bind, h2]
        rw [h4, Oper.uponIn_value]
        exact ih _ ρ w _ _ hl' hcov' (I.still hlt hnl hb hn ho hout hso hbm hap h3)
      | loud hw hl2 hnl2 σ1 hout he hm hlk hs =>
        rw [if_pos hw]
        obtain ⟨σS, hS, himg, hsim⟩ := I.heap
        have hview := DInv.view hlt hnl hb (by rw [hout]; rfl) R I hS
        have hwf : WF (viewOf (hidOf (bm i) (st i).rs) (st i).σ) := by
          refine ⟨Nat.le_refl _, fun k hk => ?_⟩
          rw [R.view hlt k]
          split
          · rfl
          · exact (R.wfs (Nat.le_of_lt hlt)).2 k hk
        have hfree : Free ρ (viewOf (hidOf (bm i) (st i).rs) (st i).σ) σ1.next := by
          intro k hk1 hk2
          have hk1 : (st i).σ.next ≤ k := hk1
          have h0 : ρ0 k = none := by
            refine hf k (Nat.le_trans (R.next (Nat.zero_le i) (Nat.le_of_lt hlt)) hk1) ?_
            have h2 := (R.out_next hlt hout).2
            have h3 := R.next (show i + 1 ≤ n from hlt) (Nat.le_refl _)
            omega
          refine Classical.byContradiction fun hne => ?_
          obtain ⟨j, σ2, h2, h3, h4, h5⟩ := I.only k (by rw [h0]; exact hne)
          have h6 := (R.out_next hlt hout).2
          have h7 := (R.out_next h2.1 h3).2
          rcases Nat.lt_trichotomy i j with h | h | h
          · have := R.next (show i + 1 ≤ j from h) (Nat.le_of_lt h2.1); omega
          · subst h; exact hnl h2
          · have := R.next (show j + 1 ≤ i from h) (Nat.le_of_lt hlt); omega
        have hstp := ((R.stp hlt).2 σ1 hout).1 (Nat.le_refl _)
        -- on a state of which the world holds all
        have go : ∀ σv σ1v : SSt, WF σv → (∀ k o, σv.heap.get k = some o → σS.heap.get k = some o) → Free ρ σv σ1.next → (∀ k, touch st out i k → σ1v.heap.get k = σ1.heap.get k) → (∀ k, ¬ touch st out i k → ∀ o, σv.heap.get k = some o → σ1v.heap.get k = some o) → σv.next = (st i).σ.next → σ1v.next = σ1.next →
            evOp C.E (so i).op code call (st i).a.tm σv = .ok (v i, σ1v) → o.wpIn (FW ro) 0 C.P ra w (fun ra' w' => wpAnyIn (FW ro) 0 C.P .any ops Q2 fuel (listed.setIfInBounds i true) ra' w') (fun e ra' w' => Q2 e ra' w') := by
          intro σv σ1v hwv hvv hfv htv hsv hn0 hn1 hev
          refine op_sound (Q := fun r => r = (v i, σ1v)) hcode R.code hcall (hso i o ho) hwv (hsim.sub hvv) hX ro hfv (by rw [Al, hev]; exact ⟨Nat.le_of_eq hn1, rfl⟩) fun rv w' hp => ?_
          obtain ⟨x, σ', ρ', h2, hok, hv2⟩ := hp
          cases h2
          exact ih _ ρ' w' _ _ hl' hcov' (I.moved hlt hnl hb hn ho hout hso hbm hap R hS himg hsim hvv htv hsv hn0 hn1 hok hv2)
        cases hlo : lightOf (so i).op (st i).a.tm with
        | none =>
          refine go _ σ1 hwf (fun k o => hview k o (.inl hlo)) hfree (fun _ _ => rfl) (fun k hk o hg => ?_) rfl rfl he
          by_cases e : σ1.heap.get k = (viewOf (hidOf (bm i) (st i).rs) (st i).σ).heap.get k
          · rw [e]; exact hg
          · have hkn : k < (st i).σ.next := by
              rcases Nat.lt_or_ge k (st i).σ.next with h | h
              · exact h
              · have h2 := hwf.2 k h
                rw [h2] at hg; cases hg
            exact absurd ⟨σ1, hout, .inr (hstp.chg k hkn e)⟩ hk
        | some ks =>
          obtain ⟨σ1v, h1, h2, h3, h4⟩ := light_sound (code := code) (call := call) (E := C.E) hlo hwf rfl rfl he
          have hrestr : ∀ k o, (restr ks (viewOf (hidOf (bm i) (st i).rs) (st i).σ)).heap.get k = some o → k ∈ ks ∧ (viewOf (hidOf (bm i) (st i).rs) (st i).σ).heap.get k = some o := fun k o hg => restr_get hg
          refine go (restr ks (viewOf (hidOf (bm i) (st i).rs) (st i).σ)) σ1v ⟨Nat.le_refl _, fun k hk => ?_⟩ (fun k o hg => hview k o (.inr ⟨ks, hlo, (hrestr k o hg).1⟩) (hrestr k o hg).2) hfree (fun k hk => (h3 k (by
              obtain ⟨σ2, h5, h6⟩ := hk
              rw [hout] at h5
              cases h5
              exact h6)).symm) (fun k hk o hg => h4 k o (fun h => hk ⟨σ1, hout, h⟩) hg) rfl h2 h1
          cases hq : (restr ks (viewOf (hidOf (bm i) (st i).rs) (st i).σ)).heap.get k with
          | none => rfl
          | some o2 =>
            have h5 := (hrestr k o2 hq).2
            rw [hwf.2 k hk] at h5
            cases h5
theorem draw_sound (hcode : CodeOk C code) (hstp : CodeStp code) (hcall : CallOk C call) (hcstp : CallStp call) {id : Nat} {sl : List SOper} (hm : C.P.follows .mixedOrders = true) (hord : inOrder ops = true) (hap : apartAll ops (Region.before ops) = true)
    (hsl : ops.toList.mapM (compOper C.P N ops) = some sl) (ro : Option Nat) {a : SAct} {ra : Act} {σ : SSt} {ρ : Ren} {w : World} {Q : SAct × SSt → Prop} (hwf : WF σ) (h : Sim C ρ σ w) (ha : ActR C ρ w N a ra) (hf : Free ρ σ hi)
    (he : (evDraw C.E code call (sl.zip (Region.before ops).toList) 0 0 [] [] a σ).all fun r => r.2.next ≤ hi ∧ Q r) {Q2 : Exit → Act → World → Prop} (hQ : ∀ ra' w', OpsPost C N a ρ σ w Q ra' w' → Q2 .normal ra' w') : (Code.region id ops true).wpIn (FW ro) 0 C.P Q2 ra w := by
  obtain ⟨hlen, hget⟩ := mapM_some hsl
  have hbs : (Region.before ops).size = ops.size := by
    have := (foldl_push_spec (fun acc o => o.after.foldl (fun s e => if Region.binds .any e = true then s ||| 2 ^ e.on ||| acc.getD e.on 0 else s) 0) ops.toList #[]).1
    unfold Region.before
    rw [← Array.foldl_toList]
    simpa using this
  have hslen : sl.length = ops.size := by rw [← hlen]; simp
  obtain ⟨st, v, out, h1, h2, h3, h4⟩ := evDraw_seq _ 0 0 [] [] a σ _ he
  have hzl : (sl.zip (Region.before ops).toList).length = ops.size := by simp [hslen, hbs]
  rw [hzl] at h3 h4
  simp only [Nat.zero_add] at h2 h3 h4
  let so : Nat → SOper := fun i => (sl[i]?).getD ⟨none, .mem .bad, none⟩
  let bm : Nat → Nat := fun i => (Region.before ops).getD i 0
  have R : Run C.E code call ops.size so bm st v out := by
    refine ⟨fun i hi => ?_, by rw [h1], by rw [h1], by rw [h1], by rw [h1]; exact hwf, hstp, hcstp⟩
    refine h2 i (so i) (bm i) ?_
    have e1 : sl[i]? = some (so i) := by
      have : i < sl.length := by omega
      simp [so, List.getElem?_eq_getElem this]
    have e2 : (Region.before ops).toList[i]? = some (bm i) := by
      have : i < (Region.before ops).size := by omega
      simp [bm, Array.getD_eq_getD_getElem?, this]
    rw [List.getElem?_zip_eq_some]
    exact ⟨e1, e2⟩
  have hso : ∀ i o, ops[i]? = some o → compOper C.P N ops o = some (so i) := by
    intro i o ho
    obtain ⟨y, hy, hy2⟩ := hget i o (by simpa using ho)
    rw [hy]
    simp [so, hy2]
  refine wpIn_region_any hm ?_
  have hd0 : w.drew = { w with drawn := w.drawn + 1 } := rfl
  rw [← hd0]
  refine draw_any (n := ops.size) (ρ0 := ρ) (w0 := w.drew) (ra0 := ra) (hi := hi) hcode hcall R rfl hso (fun i => rfl) hord hap ro (by rw [h1]; exact hf) h3 (by rw [h1]; exact ha.defers) (fun ρ' w' ra' hok hact => ?_) ops.size (Array.replicate ops.size false) ρ w.drew ra (List.range ops.size) (by simp) (fun j hj _ => List.mem_range.2 hj) ?_
  · rw [h1] at hok
    exact hQ _ _ ⟨_, _, _, h4, (Ok.drew h).trans hok, hact, by rw [(R.defers (Nat.le_refl _)).2, h1]⟩
  · have hno : ∀ j, ¬ LS ops.size (Array.replicate ops.size false) j := by
      rintro j ⟨hj, hx⟩
      simp [Array.getD_eq_getD_getElem?, hj] at hx
    refine ⟨by simp, fun j hj => absurd hj (hno j), fun t => .inr ⟨fun i hi => absurd hi (hno i), by rw [h1]; exact ha.tm t⟩, ha.size, rfl, ⟨σ, fun k => .inr ⟨fun i hi => absurd hi (hno i), by rw [h1]⟩, fun k o b off hg hr => .inr ⟨k, o, off, by rw [h1]; exact hg, hr⟩, h.drew⟩, fun _ _ h => h, Fr.refl _ _ _, fun k hk => absurd rfl hk⟩
end
end Go.Sh
