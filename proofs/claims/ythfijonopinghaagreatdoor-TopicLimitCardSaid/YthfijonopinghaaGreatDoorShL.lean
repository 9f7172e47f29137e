/-
  The shadow machine, part L: every operation with memory.
-/
import Derived.Test.YthfijonopinghaaGreatDoorShK
set_option linter.unusedSimpArgs false
set_option linter.unusedVariables false
namespace Go.Sh
section
variable {C : Cx} {ρ : Ren} {σ : SSt} {w : World} {hi : Nat} {Q : SV × SSt → Prop}

def NxR (C : Cx) (ρ : Ren) (w : World) (v : SV) (nx : Next) : Prop := (∃ rv, nx = .value rv ∧ VR C.P C.B (World.shp w) ρ v rv) ∨ (nx = .skip ∧ v = undefS)
/-- An operation does what the shadow's does. -/
def Doing (C : Cx) (ρ : Ren) (σ : SSt) (w : World) (s : Sem Next) (Q : SV × SSt → Prop) : Prop :=
  ∃ v σ' ρ' nx w', Q (v, σ') ∧ Ok C ρ σ w ρ' σ' w' ∧ s.run C.P w = .ok nx w' ∧ NxR C ρ' w' v nx
theorem Does.doing {s : Sem Value} (h : Does C ρ σ w s Q) : Doing C ρ σ w (do pure (.value (← s))) Q := by
  obtain ⟨v, σ', ρ', rv, w', h1, h2, h3, h4⟩ := h
  exact ⟨v, σ', ρ', .value rv, w', h1, h2, by simp [Sem.run_bind, h3], .inl ⟨rv, rfl, h4⟩⟩
theorem DoesU.doing {s : Sem Unit} (h : DoesU C ρ σ w s Q) : Doing C ρ σ w (do s; pure .skip) Q := by
  obtain ⟨σ', ρ', w', h1, h2, h3⟩ := h
  exact ⟨_, σ', ρ', .skip, w', h1, h2, by simp [Sem.run_bind, h3], .inr ⟨rfl, rfl⟩⟩

theorem mem_sound (h : Sim C ρ σ w) (hf : Free ρ σ hi) {tm : T SV} {ev : Operand → Value} {o : Oper} (hX : XR C.P C.B (World.shp w) ρ tm ev o.op.operands) {m : MOp} (hc : compOp C.P o = some (.mem m)) (he : Al (evMem C.E m tm σ) hi Q) : Doing C ρ σ w (execOp ev o) Q := by
  unfold compOp at hc
  split at hc
  case h_4 elem ho =>
    rw [ho] at hX
    simp only [Option.map_eq_some_iff] at hc
    obtain ⟨z, hz, hl⟩ := hc
    cases hl
    have := (alloc_sound (tm := tm) h hf hz he).doing
    simpa only [execOp, ho] using this
  case h_5 elem x ho =>
    rw [ho] at hX
    simp only [Option.map_eq_some_iff] at hc
    obtain ⟨sx, hsx, hl⟩ := hc
    cases hl
    have := (box_sound h hf (hX _ _ (by simp [Op.operands]) hsx) he).doing
    simpa only [execOp, ho] using this
  case h_7 t len parts ho =>
    rw [ho] at hX
    split at hc
    · rename_i elem hu
      split at hc
      · rename_i size z hs hz
        split at hc
        · cases hc
        · rename_i hn
          simp only [Option.map_eq_some_iff] at hc
          obtain ⟨q, hq, hl⟩ := hc
          cases hl
          simp only [Bool.or_eq_true, not_or, decide_eq_true_eq, bne_iff_ne, ne_eq, beq_iff_eq, Decidable.not_not] at hn
          obtain ⟨⟨n1, n2⟩, n3⟩ := hn
          obtain ⟨h1, h2⟩ := mapM_some hq
          have := (buildSlice_sound (parts := q) (rparts := parts.map fun (i, x) => (i, ev x)) h hf hu hs hz n1 n2 (by omega) (by simpa using h1.symm) (fun i j x hx => ?_) he).doing
          · simpa only [execOp, ho] using this
          · have hi : i < parts.toList.length := by rw [h1]; exact (List.getElem?_eq_some_iff.1 hx).1
            obtain ⟨y, h3, h4⟩ := h2 i _ (List.getElem?_eq_getElem hi)
            rw [hx] at h4
            cases h4
            simp only [Option.map_eq_some_iff] at h3
            obtain ⟨sx, h5, h6⟩ := h3
            cases h6
            refine ⟨ev (parts.toList[i]).2, ?_, hX _ _ (by simp only [Op.operands, List.mem_toArray]; exact List.mem_map_of_mem (List.getElem_mem hi)) h5⟩
            have hi' : i < parts.size := by simpa using hi
            simp [hi']
      · cases hc
    · cases hc
  case h_8 t x ho =>
    rw [ho] at hX
    split at hc
    · rename_i a sx ha hx
      cases hc
      have := (load_sound h ha (hX _ _ (by simp [Op.operands]) hx) he).doing
      simpa only [execOp, ho] using this
    · cases hc
  case h_9 t x v ho =>
    rw [ho] at hX
    split at hc
    · rename_i s sx sv hs hx hv
      cases hc
      have := (store_sound h hs (hX _ _ (by simp [Op.operands]) hx) (hX _ _ (by simp [Op.operands]) hv) he).doing
      simpa only [execOp, ho] using this
    · cases hc
  case h_13 src dst x ho =>
    rw [ho] at hX
    have fin : Does C ρ σ w (convert src dst (ev x)) Q → Doing C ρ σ w (execOp ev o) Q := by
      intro h
      have := h.doing
      simpa only [execOp, ho] using this
    split at hc
    · cases hc
    · cases hc
    · cases hc
    · rename_i sx e hx hs hd
      split at hc
      · rename_i hu8
        simp only [if_true] at hc
        split at hc
        · cases hc
          obtain ⟨bs, e1, h1⟩ := convBytes_sound h hf (hX _ _ (by simp [Op.operands]) hx) he
          refine fin ?_
          obtain ⟨v, σ', ρ', rv, w', q1, q2, q3, q4⟩ := h1
          exact ⟨v, σ', ρ', rv, w', q1, q2, by rw [e1]; simp [convert, Sem.run_bind, run_underlying hs, run_underlying hd, run_underlying hu8, q3], q4⟩
        · cases hc
      · simp at hc
    · rename_i sx e hx hs hd
      split at hc
      · rename_i hu8
        simp only [if_true] at hc
        cases hc
        obtain ⟨⟨a, n, c, e1⟩, h1⟩ := convStr_sound h (hX _ _ (by simp [Op.operands]) hx) he
        refine fin ?_
        obtain ⟨v, σ', ρ', rv, w', q1, q2, q3, q4⟩ := h1
        refine ⟨v, σ', ρ', rv, w', q1, q2, ?_, q4⟩
        rw [e1] at q3 ⊢
        rw [run_convert_bytes_string w src dst e a n c hs hu8 hd]
        exact q3
      · simp at hc
    · rename_i sx e0 e hx hs hd
      split at hc
      · rename_i hu8
        split at hc
        · rename_i hcond
          cases hc
          rw [Bool.and_eq_true] at hcond
          have hsd : src = dst := by simpa using hcond.1
          subst hsd
          exact fin (same_sound h hcond.1 hd hu8 (hX _ _ (by simp [Op.operands]) hx) he)
        · cases hc
      · simp at hc
    · cases hc
  case h_16 t ho =>
    rw [ho] at hX
    cases hc
    have := (mkMap_sound (t := t) (tm := tm) h hf he).doing
    simpa only [execOp, ho, Option.map_none] using this
  case h_17 t l c ho =>
    rw [ho] at hX
    split at hc
    · rename_i elem hu
      split at hc
      · rename_i size bytes z sl sc hs hb hz hl hcc
        split at hc
        · cases hc
        · rename_i hn
          cases hc
          simp only [Bool.or_eq_true, not_or, bne_iff_ne, ne_eq, beq_iff_eq, Decidable.not_not] at hn
          have := (mkSlice_sound h hf hu hs hb hz hn.1 (by omega) (hX _ _ (by simp [Op.operands]) hl) (hX _ _ (by simp [Op.operands]) hcc) he).doing
          simpa only [execOp, ho] using this
      · cases hc
    · cases hc
  case h_23 t x k ok ho =>
    rw [ho] at hX
    split at hc
    · rename_i key elem sx sk hu hx hk
      split at hc
      · rename_i kk hkk
        simp only [Option.map_eq_some_iff] at hc
        obtain ⟨z, hz, hl⟩ := hc
        cases hl
        obtain ⟨key', elem', hu', hkey⟩ := keyT_cases hkk
        rw [hu] at hu'
        cases hu'
        have := (lookup_sound h hu hkey hz (hX _ _ (by simp [Op.operands]) hx) (hX _ _ (by simp [Op.operands]) hk) he).doing
        simpa only [execOp, ho] using this
      · cases hc
    · cases hc
  case h_24 t x k v ho =>
    rw [ho] at hX
    split at hc
    · rename_i sx sk sv hx hk hv
      split at hc
      · rename_i kk hkk
        cases hc
        obtain ⟨key, elem, hu, hkey⟩ := keyT_cases hkk
        have := (mapUpdate_sound h hu hkey (hX _ _ (by simp [Op.operands]) hx) (hX _ _ (by simp [Op.operands]) hk) (hX _ _ (by simp [Op.operands]) hv) he).doing
        simpa only [execOp, ho] using this
      · cases hc
    · cases hc
  case h_25 t x k v ho =>
    rw [ho] at hX
    split at hc
    · rename_i sx sk sv hx hk hv
      split at hc
      · rename_i kk hkk
        cases hc
        obtain ⟨key, elem, hu, hkey⟩ := keyT_cases hkk
        have := (mapUpdate_sound h hu hkey (hX _ _ (by simp [Op.operands]) hx) (hX _ _ (by simp [Op.operands]) hk) (hX _ _ (by simp [Op.operands]) hv) he).doing
        simpa only [execOp, ho] using this
      · cases hc
    · cases hc
  case h_26 t x ho =>
    rw [ho] at hX
    split at hc
    · rename_i k e sx hu hx
      cases hc
      have := (range_sound h hf hu (hX _ _ (by simp [Op.operands]) hx) he).doing
      simpa only [execOp, ho] using this
    · cases hc
  case h_27 x isString ho =>
    rw [ho] at hX
    split at hc
    · cases hc
    · rename_i hs
      simp only [Option.map_eq_some_iff] at hc
      obtain ⟨sx, hsx, hl⟩ := hc
      cases hl
      have hs' : isString = false := by simpa using hs
      subst hs'
      have := (next_sound (ty := o.type) h (hX _ _ (by simp [Op.operands]) hsx) he).doing
      simpa only [execOp, ho] using this
  case h_28 x ho =>
    rw [ho] at hX
    simp only [Option.map_eq_some_iff] at hc
    obtain ⟨sx, hsx, hl⟩ := hc
    cases hl
    have := (entry_sound h (hX _ _ (by simp [Op.operands]) hsx) he).doing
    simpa only [execOp, ho] using this
  case h_30 c ho =>
    rw [ho] at hX
    split at hc
    · repeat' split at hc
      all_goals (first | (cases hc; done) | (simp at hc; done))
    · rename_i b args hcal hargs
      have hb : ∀ {s : Sem Value}, (∀ cs, builtin b c.argTypes o.type cs (c.args.map ev) = (do pure (.value (← s)))) → Does C ρ σ w s Q → Doing C ρ σ w (execOp ev o) Q := by
        intro s h1 h2
        obtain ⟨v, σ', ρ', nx, w', q1, q2, q3, q4⟩ := h2.doing
        refine ⟨v, σ', ρ', nx, w', q1, q2, ?_, q4⟩
        simp only [execOp, ho, resolve, hcal, Sem.run_bind, Sem.run_pure, Result.andThen_ok, invoke]
        rw [h1]
        exact q3
      have hvs := hX.list (fun x hx => by simp only [Op.operands, Call.operands, Array.mem_append]; exact .inr (Array.mem_toList_iff.1 hx)) hargs
      have hev : (c.args.map ev).toList = c.args.toList.map ev := by simp
      have one : ∀ {x : SX}, args = [x] → ∃ r, c.args.map ev = #[r] ∧ VR C.P C.B (World.shp w) ρ (evX tm x) r := by
        intro x hx
        subst hx
        rw [← hev] at hvs
        generalize c.args.map ev = arr at hvs
        obtain ⟨l⟩ := arr
        simp only [List.map_cons, List.map_nil] at hvs
        cases hvs with
        | cons h t => cases t; exact ⟨_, rfl, h⟩
      have two : ∀ {x y : SX}, args = [x, y] → ∃ r s, c.args.map ev = #[r, s] ∧ VR C.P C.B (World.shp w) ρ (evX tm x) r ∧ VR C.P C.B (World.shp w) ρ (evX tm y) s := by
        intro x y hx
        subst hx
        rw [← hev] at hvs
        generalize c.args.map ev = arr at hvs
        obtain ⟨l⟩ := arr
        simp only [List.map_cons, List.map_nil] at hvs
        cases hvs with
        | cons h t => cases t with
          | cons h2 t2 => cases t2; exact ⟨_, _, rfl, h, h2⟩
      have ty1 : ∀ {t : TypeId}, c.argTypes.toList = [t] → c.argTypes = #[t] := fun h => by rw [← Array.toArray_toList (xs := c.argTypes), h]
      have ty2 : ∀ {t u : TypeId}, c.argTypes.toList = [t, u] → c.argTypes = #[t, u] := fun h => by rw [← Array.toArray_toList (xs := c.argTypes), h]
      split at hc
      · -- len
        rename_i x t hta
        obtain ⟨r, hr, hrv⟩ := one rfl
        split at hc
        · cases hc
        · cases hc
        · rename_i k e hu
          cases hc
          refine hb (s := Builtin.len_ #[t] o.type #[r]) (fun cs => by rw [hr, ty1 hta]; rfl) (lenMap_sound h hu hrv he)
        · cases hc
      · repeat' split at hc
        all_goals (first | (cases hc; done) | (simp at hc; done))
      · cases hc
      · cases hc
      · -- append
        rename_i s x t u hta
        obtain ⟨r, q, hr, hrv, hqv⟩ := two rfl
        split at hc
        · rename_i elem e hut huu
          split at hc
          · rename_i size bytes z hs hby hz
            split at hc
            · cases hc
            · rename_i hn
              cases hc
              simp only [Bool.or_eq_true, not_or, bne_iff_ne, ne_eq, beq_iff_eq, Decidable.not_not] at hn
              exact hb (s := Builtin.append_ #[t, u] o.type #[r, q]) (fun cs => by rw [hr, ty2 hta]; rfl) (appendX_sound h hf hut (.inl ⟨_, huu⟩) hs hby hz hn.2 (by omega) (by omega) hrv hqv he)
          · cases hc
        · rename_i elem hut huu
          split at hc
          · rename_i size bytes z hs hby hz
            split at hc
            · cases hc
            · rename_i hn
              cases hc
              simp only [Bool.or_eq_true, not_or, bne_iff_ne, ne_eq, beq_iff_eq, Decidable.not_not] at hn
              exact hb (s := Builtin.append_ #[t, u] o.type #[r, q]) (fun cs => by rw [hr, ty2 hta]; rfl) (appendX_sound h hf hut (.inr huu) hs hby hz hn.2 (by omega) (by omega) hrv hqv he)
          · cases hc
        · rename_i elem k hut huu
          split at hc
          · rename_i size bytes z hs hby hz
            split at hc
            · cases hc
            · rename_i hn
              cases hc
              simp only [Bool.or_eq_true, not_or, bne_iff_ne, ne_eq, beq_iff_eq, Decidable.not_not] at hn
              exact hb (s := Builtin.append_ #[t, u] o.type #[r, q]) (fun cs => by rw [hr, ty2 hta]; rfl) (appendZ_sound h hf hut huu hs hby hz hn.2 (by omega) (by omega) hrv hqv he)
          · cases hc
        · cases hc
      · -- copy
        rename_i d s t u hta
        obtain ⟨r, q, hr, hrv, hqv⟩ := two rfl
        split at hc
        · rename_i elem hut
          simp only [Option.map_eq_some_iff] at hc
          obtain ⟨size, hs, hl⟩ := hc
          cases hl
          exact hb (s := Builtin.copy_ #[t, u] o.type #[r, q]) (fun cs => by rw [hr, ty2 hta]; rfl) (copy_sound h hut hs hrv hqv he)
        · cases hc
      · -- delete
        rename_i m k t u hta
        obtain ⟨r, q, hr, hrv, hqv⟩ := two rfl
        split at hc
        · rename_i kk hkk
          cases hc
          obtain ⟨key, elem, hu, hkey⟩ := keyT_cases hkk
          exact hb (s := Builtin.delete_ #[t, u] o.type #[r, q]) (fun cs => by rw [hr, ty2 hta]; rfl) (delete_sound h hu hkey hrv hqv he)
        · cases hc
      · -- clear
        rename_i x t hta
        obtain ⟨r, hr, hrv⟩ := one rfl
        split at hc
        · rename_i elem hut
          split at hc
          · rename_i size z hs hz
            split at hc
            · cases hc
            · rename_i hn
              cases hc
              simp only [Bool.or_eq_true, not_or, bne_iff_ne, ne_eq, beq_iff_eq, Decidable.not_not] at hn
              exact hb (s := Builtin.clear_ #[t] o.type #[r]) (fun cs => by rw [hr, ty1 hta]; rfl) (clear_sound h hut hz (by omega) hrv he)
          · cases hc
        · cases hc
      · cases hc
    · cases hc
  all_goals (repeat' split at hc)
  all_goals (first | (cases hc; done) | (simp at hc; done))
end
end Go.Sh
