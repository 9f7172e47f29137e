/-
  The shadow machine, part U: calls; the whole.
-/
import Derived.Test.YthfijonopinghaaGreatDoorShT
import Derived.Laws.Externs
set_option linter.unusedSimpArgs false
set_option linter.unusedVariables false
namespace Go.Sh
theorem findF_spec (s : ByteArray) (c : Nat) : ∀ (f i : Nat), i + f = s.size → Str.findF (Str.of s) (c % 256) f i = (List.range' i f).find? fun j => s[j]! == c.toUInt8 := by
  intro f
  induction f with
  | zero => intro i _; rfl
  | succ f ih =>
    intro i hi
    have hlt : i < s.size := by omega
    have hg := Str.get_of s i hlt
    have he : s[i]! = s[i]'hlt := by simp [getElem!_pos, hlt]
    have hb : Nat.beq ((Str.of s).get i) (c % 256) = (s[i]! == c.toUInt8) := by
      rw [hg, he, Bool.eq_iff_iff, beq_iff_eq, Nat.beq_eq]
      constructor
      · intro h
        apply UInt8.toNat_inj.1
        rw [h]
        simp
      · intro h
        rw [h]
        simp
    rw [Str.findF, List.range'_succ, List.find?_cons, hb]
    cases s[i]! == c.toUInt8 with
    | true => rfl
    | false => exact ih (i + 1) (by omega)
theorem find_spec (s : ByteArray) (c : Nat) : optInt ((Str.of s).find (c % 256)) = firstIdx s c.toUInt8 := by
  have h1 : (Str.of s).find (c % 256) = (List.range s.size).find? fun j => s[j]! == c.toUInt8 := by
    unfold Str.find
    rw [Str.of_len, findF_spec s c s.size 0 (by omega), List.range_eq_range']
  rw [h1]
  unfold firstIdx
  cases (List.range s.size).find? fun j => s[j]! == c.toUInt8 <;> rfl

section
variable {C : Cx} {ρ : Ren} {σ : SSt} {w : World} {hi : Nat} {code : CodeF} {call : CallF}
/-- What stands in the shadow's table is what the program's functions are compiled to. -/
structure FuncsOk (C : Cx) : Prop where
  code : ∀ f n rs c, C.E.funcs.get f = some (.code n rs c) → ∃ fn, C.P.funcs[f]? = some fn ∧ compFunc C.P fn = some (.code n rs c)
  ext : ∀ f, C.E.funcs.get f = some (.ext .indexByte) → ∀ s c w, (callFunc f #[.string s, .int .u8 c]).run C.P w = .ok (.value (.int .i64 (firstIdx s c.toNat.toUInt8))) w
def SpecOk (C : Cx) : Prop := ∀ f g, C.E.spec f = some g → ∀ (args : List SV) (rargs : List Value) (σ : SSt) (ρ : Ren) (w : World) (hi : Nat) (Q : SV × SSt → Prop),
  WF σ → Sim C ρ σ w → VRs C.P C.B (World.shp w) ρ args rargs → Free ρ σ hi → Al (g args σ) hi Q → Called C f rargs w (CallPost C ρ σ w Q)

/-! ### Leaving a function -/
theorem run_takeMark (h : Sim C ρ σ w) {m b : Nat} (hg : σ.heap.get m = some .marker) (hr : ρ m = some (b, 0)) : (Instr.takeDeferred b).run C.P w = .ok [] (w.putObj b (.deferred none)) ∧ Ok C ρ σ w ρ (σ.put m none) (w.putObj b (.deferred none)) := by
  obtain ⟨b', off, h1, h2, h3⟩ := h.objs _ _ hg
  rw [hr] at h1
  cases h1
  have hw := h3.2
  refine ⟨run_takeDeferred hw, ?_⟩
  have hlt := (Array.getElem?_eq_some_iff.1 hw).1
  have hheap := fun j => putO_heap w b (.deferred none) j hlt
  have hsz : (w.putObj b (.deferred none)).heap.size = w.heap.size := by simp
  have hns : ∀ p, w.shape? b ≠ some p := fun p hp => by unfold World.shape? at hp; rw [hw] at hp; cases hp
  have hsh : ∀ j p, World.shp w j = some p → World.shp (w.putObj b (.deferred none)) j = some p := by
    intro j p hj
    by_cases e : j = b
    · subst e; exact absurd hj (hns p)
    · refine (shape_of_heap ?_).trans hj
      have := hheap j
      rw [if_neg e] at this
      exact this
  have hget : ∀ j, (σ.put m none).heap.get j = if j = m then none else σ.heap.get j := fun j => T.get_set _ _ _ _
  have live : ∀ j o, (σ.put m none).heap.get j = some o → j ≠ m ∧ σ.heap.get j = some o := by
    intro j o hj
    rw [hget] at hj
    by_cases e : j = m
    · rw [if_pos e] at hj; cases hj
    · rw [if_neg e] at hj; exact ⟨e, hj⟩
  have heq : ∀ j, j ≠ b → (w.putObj b (.deferred none)).heap[j]? = w.heap[j]? := fun j e => by
    have := hheap j
    rw [if_neg e] at this
    exact this
  refine ⟨fun _ _ h => h, fun _ h => absurd rfl h, fun j o c f hg' hr' => .inr ⟨j, o, f, (live j o hg').2, hr'⟩, ⟨fun j o hj => ?_, fun j j' o o' c f f' hj hj' => h.inj j j' o o' c f f' (live j o hj).2 (live j' o' hj').2, fun c i v hv => ?_, by rw [hsz]; exact h.size⟩, ⟨rfl, rfl, rfl, by rw [hsz]; exact Nat.le_refl _, fun c hc hn => ?_, hsh⟩, Nat.le_refl _⟩
  · obtain ⟨hne, hj⟩ := live j o hj
    obtain ⟨c, f, h4, h5, h6⟩ := h.objs j o hj
    refine ⟨c, f, h4, h5, h6.mono hsh (fun _ _ h => h) (heq c fun e => ?_)⟩
    subst e
    exact hne (h.inj j m _ _ c f 0 hj hg h4 hr)
  · obtain ⟨h4, r, h5, h6⟩ := h.base c i v hv
    refine ⟨h4, r, (cell_of_heap (heq c (by omega))).trans h5, h6.mono hsh (fun _ _ h => h)⟩
  · exact heq c fun e => by subst e; exact hn m _ 0 hg hr
theorem leaves_sound {F : Fence} {n : Nat} {fn : Func} {tmps : Array Value} {R : Ending → World → Prop} : ∀ (ms : List Nat) (ds : List Deferred) (σ σ2 : SSt) (w : World), takeMarks ms σ = some σ2 → DfR ρ ms ds → Sim C ρ σ w →
    (∀ w2, Ok C ρ σ w ρ σ2 w2 → ∃ v, (results fn tmps).run C.P w2 = .ok v w2 ∧ R (.returned v) w2) → LeavesInM F n C.P fn tmps R ds .returning w := by
  intro ms
  induction ms with
  | nil =>
    intro ds σ σ2 w ht hd h hr
    cases hd
    cases ht
    exact hr w (Ok.refl h)
  | cons m ms ih =>
    intro ds σ σ2 w ht hd h hr
    cases hd with
    | cons hm hdt hds =>
      unfold takeMarks at ht
      split at ht
      · rename_i hg
        obtain ⟨h1, h2⟩ := run_takeMark h hg hm
        refine ⟨by simp, .inl ⟨_, _, hdt, h1, ih _ _ σ2 _ ht hds h2.sim fun w2 hok => hr w2 (h2.trans hok)⟩⟩
      · cases ht
theorem results_list {tm : T SV} {g : ResultVar → Sem Value} (hg : ∀ r sr v, compRes C.P r = some sr → evRes C.E tm σ sr = some v → ∃ rv, (g r).run C.P w = .ok rv w ∧ VR C.P C.B (World.shp w) ρ v rv) :
    ∀ {l : List ResultVar} {srs : List SRes} {vs : List SV}, l.mapM (compRes C.P) = some srs → srs.mapM (evRes C.E tm σ) = some vs → ∃ rs : List Value, (l.mapM g).run C.P w = .ok rs w ∧ VRs C.P C.B (World.shp w) ρ vs rs := by
  intro l
  induction l with
  | nil => intro srs vs h1 h2; simp at h1; subst h1; simp at h2; subst h2; exact ⟨[], rfl, .nil⟩
  | cons r l ih =>
    intro srs vs h1 h2
    simp only [List.mapM_cons, Option.bind_eq_bind, Option.bind_eq_some_iff, Option.pure_def, Option.some.injEq] at h1
    obtain ⟨sr, hsr, srs, hsrs, rfl⟩ := h1
    simp only [List.mapM_cons, Option.bind_eq_bind, Option.bind_eq_some_iff, Option.pure_def, Option.some.injEq] at h2
    obtain ⟨v, hv, vs, hvs, rfl⟩ := h2
    obtain ⟨rv, h3, h4⟩ := hg r sr v hsr hv
    obtain ⟨rs, h5, h6⟩ := ih hsrs hvs
    exact ⟨rv :: rs, by simp only [List.mapM_cons, Sem.run_bind, h3, Result.andThen_ok, h5, Sem.run_pure], .cons h4 h6⟩
theorem evRess_list {E : Env} {tm : T SV} {σ : SSt} {rs : List SRes} {v : SV} (h : evRess E tm σ rs = some v) : ∃ vs, rs.mapM (evRes E tm σ) = some vs ∧ ((∃ x, vs = [x] ∧ v = x) ∨ (vs.length ≠ 1 ∧ v = .tuple vs)) := by
  unfold evRess at h
  split at h
  · rename_i r
    exact ⟨[v], by simp [h], .inl ⟨v, rfl, rfl⟩⟩
  · rename_i hne
    simp only [Option.map_eq_some_iff] at h
    obtain ⟨vs, h1, h2⟩ := h
    refine ⟨vs, h1, .inr ⟨fun hl => ?_, h2.symm⟩⟩
    have h3 := (mapM_some h1).1
    rw [hl] at h3
    match rs, h3, hne with
    | [r], _, hne => exact hne r rfl
theorem results_sound (h : Sim C ρ σ w) {tm : T SV} {fn : Func} {tmps : Array Value} (htm : TmR C.P C.B (World.shp w) ρ tm tmps) {srs : List SRes} (hc : fn.results.toList.mapM (compRes C.P) = some srs) {v : SV} (hv : evRess C.E tm σ srs = some v) :
    ∃ rv, (results fn tmps).run C.P w = .ok rv w ∧ VR C.P C.B (World.shp w) ρ v rv := by
  have key : ∀ g : ResultVar → Sem Value, (∀ r sr v, compRes C.P r = some sr → evRes C.E tm σ sr = some v → ∃ rv, (g r).run C.P w = .ok rv w ∧ VR C.P C.B (World.shp w) ρ v rv) →
      ∃ rv, (do let vs ← fn.results.mapM g; pure (if h : vs.size = 1 then vs[0] else .tuple vs) : Sem Value).run C.P w = .ok rv w ∧ VR C.P C.B (World.shp w) ρ v rv := by
    intro g hg
    obtain ⟨vs, hvs, hor⟩ := evRess_list hv
    obtain ⟨rs, h1, h2⟩ := results_list hg hc hvs
    have hl := h2.length
    refine ⟨if h : rs.toArray.size = 1 then rs.toArray[0] else .tuple rs.toArray, ?_, ?_⟩
    · rw [Array.mapM_eq_mapM_toList]
      simp only [Sem.run_bind, Sem.run_map, h1, Result.andThen_ok, Sem.run_pure]
    · rcases hor with ⟨x, rfl, rfl⟩ | ⟨hne, rfl⟩
      · cases h2 with
        | cons hv1 ht => cases ht; exact hv1
      · rw [dif_neg (by simp; omega)]
        exact .tuple h2
  unfold results
  refine key _ fun r sr v hc hv => ?_
  cases r with
  | tmp t =>
    simp only [compRes, Option.some.injEq] at hc
    subst hc
    simp only [evRes, Option.some.injEq] at hv
    subst hv
    exact ⟨_, rfl, htm t⟩
  | cell t ty =>
    simp only [compRes, Option.map_eq_some_iff] at hc
    obtain ⟨g, hg, rfl⟩ := hc
    simp only [evRes] at hv
    have ht := htm t
    split at hv
    · rename_i a ha
      rw [ha] at ht
      obtain ⟨x, hx, har⟩ := vr_ptr ht
      obtain ⟨rv, h1, h2⟩ := rdVar_sound h har hg hv
      refine ⟨rv, ?_, h2⟩
      simp only [hx, asAddr, Sem.run_bind, Sem.run_pure, Result.andThen_ok]
      exact h1
    · cases hv

/-! ### Calls -/
theorem args_tm {P : Program} {B : Nat} {sh : Shp} {args : List SV} {rargs : List Value} (h : VRs P B sh ρ args rargs) (k : Nat) : TmR P B sh ρ (T.e.putList 0 args) (rargs.toArray ++ Array.replicate k undef) := by
  intro t
  unfold getT
  rw [tget_putList0, Array.getD_eq_getD_getElem?, Array.getElem?_append]
  have hl := h.length
  by_cases ht : t < args.length
  · obtain ⟨r, h1, h2⟩ := h.get (List.getElem?_eq_getElem ht)
    rw [List.getElem?_eq_getElem ht, if_pos (by simp; omega)]
    simp only [List.getElem?_toArray, h1, Option.getD_some]
    exact h2
  · rw [List.getElem?_eq_none (by omega), if_neg (by simp; omega)]
    have : ((Array.replicate k undef)[t - rargs.toArray.size]?).getD undef = undef := by
      rw [Array.getElem?_replicate]
      split <;> rfl
    rw [this]
    exact VR.undef
theorem call_sound (hcode : CodeOk C code) (hstp : CodeStp code) (hfn : FuncsOk C) (hsp : SpecOk C) : CallOk C (evCall C.E code) := by
  intro f args rargs σ ρ w hi Q hwf h hargs hf he
  simp only [Al, evCall] at he
  split at he
  · rename_i g hg
    exact hsp f g hg args rargs σ ρ w hi Q hwf h hargs hf he
  · split at he
    · rename_i x hx
      split at he
      · rename_i v hv
        unfold evExt at hv
        split at hv
        · rename_i s c
          cases hv
          cases hargs with
          | cons h1 ht => cases ht with
            | cons h2 ht2 =>
              cases ht2
              obtain ⟨bs, rfl, rfl⟩ := vr_str h1
              obtain rfl := vr_int h2
              refine .inr ⟨bs, _, rfl, _, w, hfn.ext f hx bs c w, _, σ, ρ, he.2, Ok.refl h, ?_⟩
              rw [find_spec]
              exact .int _ _
        · cases hv
      · exact he.elim
    · rename_i n rs c hx
      obtain ⟨fn, hfn1, hcf⟩ := hfn.code f n rs c hx
      -- what the function is
      unfold compFunc at hcf
      split at hcf
      · rename_i mc hbody
        split at hcf
        · cases hcf
        · rename_i hname
          split at hcf
          · rename_i sc srs hsc hsrs
            cases hcf
            have hcall : (callFunc f rargs.toArray).run C.P w = .ok (.enter f rargs.toArray) w := by
              have h1 : fn.name ≠ "runtime.NumGoroutine" := by simpa using hname
              simp [callFunc, Sem.run_bind, hfn1, h1, hbody]
            refine .inl ⟨hcall, callsIn_of_wp_marks hfn1 hbody trivial ?_⟩
            have he1 := bind_al (st := fun r : SExit × SAct × SSt => r.2.2) (st' := fun r : SV × SSt => r.2) hwf (hstp c ⟨T.e.putList 0 args, [], none⟩ σ) (callEnd_stp C.E rs) he
            have hrun := (hcode fn.ntmps mc c ⟨T.e.putList 0 args, [], none⟩ { tmps := rargs.toArray ++ Array.replicate (fn.ntmps - rargs.toArray.size) undef, defers := [] } σ ρ w none hi _ hsc hwf h ⟨args_tm hargs _, by simp; omega, .nil⟩ trivial hf he1).wpIn
            refine wpIn_mono hrun fun e ra1 w1 hp => ?_
            obtain ⟨se, a1, σ1, ρ1, ⟨hs, he2⟩, rfl, hok, hact, hro1⟩ := hp
            have fin : (Ev.all (fun r => r.2.next ≤ hi ∧ Q r) (callLeave C.E rs a1.tm (takeMarks a1.defers σ1))) → LeavesInM Fence.wide 0 C.P fn ra1.tmps (fun e w' => ∃ rv, e = .returned rv ∧ CallPost C ρ σ w Q rv w') ra1.defers .returning w1 := by
              intro he3
              cases ht : takeMarks a1.defers σ1 with
              | none => rw [ht] at he3; exact he3.elim
              | some σ2 =>
                rw [ht] at he3
                simp only [callLeave] at he3
                split at he3
                · rename_i v hv
                  refine leaves_sound a1.defers ra1.defers σ1 σ2 w1 ht hact.defers hok.sim fun w2 hok2 => ?_
                  obtain ⟨rv, h1, h2⟩ := results_sound hok2.sim (fun t => hok2.vr (hact.tm t)) hsrs hv
                  exact ⟨rv, h1, rv, rfl, v, σ2, ρ1, he3.2, hok.trans hok2, h2⟩
                · exact he3.elim
            cases se with
            | exit id => exact he2.elim
            | normal => exact fin he2
            | ret => exact fin he2
          · cases hcf
      · split at hcf <;> cases hcf
    · exact he.elim

/-! ### The whole -/
theorem evN_sound (hfn : FuncsOk C) (hsp : SpecOk C) (hss : SpecStp C.E) (n : Nat) : CodeOk C (evN C.E n).1 ∧ CallOk C (evN C.E n).2 := by
  induction n with
  | zero => exact ⟨fun _ _ _ _ _ _ _ _ _ _ _ _ _ _ _ _ _ he => he.elim, fun _ _ _ _ _ _ _ _ _ _ _ _ he => he.elim⟩
  | succ n ih =>
    have hs := evN_stp hss n
    exact ⟨code_sound ih.1 hs.1 ih.2 hs.2, call_sound ih.1 hs.1 hfn hsp⟩
end
end Go.Sh
