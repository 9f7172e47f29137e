/-
  The shadow machine, part G: an operation without memory, whole.
-/
import Derived.Test.YthfijonopinghaaGreatDoorShF
import Derived.Laws.Build
set_option linter.unusedSimpArgs false
set_option linter.unusedVariables false
namespace Go.Sh
section
variable {P : Program} {B : Nat} {sh : Shp} {ρ : Ren}

/-- What the operands are worth here and there. -/
def XR (P : Program) (B : Nat) (sh : Shp) (ρ : Ren) (tm : T SV) (ev : Operand → Value) (D : Array Operand) : Prop := ∀ x sx, x ∈ D → compX x = some sx → VR P B sh ρ (evX tm sx) (ev x)
theorem ActR.xr {C : Cx} {ρ : Ren} {w : World} {n : Nat} {a : SAct} {ra : Act} (h : ActR C ρ w n a ra) (D : Array Operand) : XR C.P C.B (World.shp w) ρ a.tm ra.eval D := fun _ _ _ hx => evX_sound h hx
theorem XR.list {tm : T SV} {ev : Operand → Value} {D : Array Operand} (h : XR P B sh ρ tm ev D) : ∀ {l : List Operand} {m : List SX}, (∀ x ∈ l, x ∈ D) → l.mapM compX = some m → VRs P B sh ρ (m.map (evX tm)) (l.map ev) := by
  intro l
  induction l with
  | nil => intro m _ hm; simp at hm; subst hm; exact .nil
  | cons x l ih =>
    intro m hD hm
    simp only [List.mapM_cons, Option.bind_eq_bind, Option.bind_eq_some_iff, Option.pure_def, Option.some.injEq] at hm
    obtain ⟨y, hy, ys, hys, rfl⟩ := hm
    exact .cons (h x y (hD x (by simp)) hy) (ih (fun x hx => hD x (by simp [hx])) hys)
theorem XR.opt {tm : T SV} {ev : Operand → Value} {D : Array Operand} (h : XR P B sh ρ tm ev D) {x : Option Operand} {m : Option SX} (hD : ∀ y, x = some y → y ∈ D) (hm : x.mapM compX = some m) : VRo P B sh ρ (m.map (evX tm)) (x.map ev) := by
  cases x with
  | none => simp at hm; subst hm; exact .none
  | some x =>
    simp only [Option.mapM_some, Option.map_eq_map, Option.map_eq_some_iff] at hm
    obtain ⟨y, hy, rfl⟩ := hm
    exact .some (h x y (hD x rfl) hy)

theorem run_isAgg {t : TypeId} {g : Option Nat} (h : aggT P t = some g) (w : World) : (isAgg t).run P w = .ok g.isSome w ∧ ∀ n, g = some n → (sizeOf t).run P w = .ok n w := by
  unfold aggT at h
  split at h
  · rename_i f hu
    simp only [Option.map_eq_some_iff] at h
    obtain ⟨n, hn, rfl⟩ := h
    exact ⟨by simp [isAgg, run_underlying hu], fun m hm => by cases hm; exact run_sizeOf hn w⟩
  · rename_i f k hu
    simp only [Option.map_eq_some_iff] at h
    obtain ⟨n, hn, rfl⟩ := h
    exact ⟨by simp [isAgg, run_underlying hu], fun m hm => by cases hm; exact run_sizeOf hn w⟩
  · rename_i d h1 h2 hu
    cases h
    refine ⟨?_, fun n hn => by cases hn⟩
    cases d <;> first | exact (h1 _ rfl).elim | exact (h2 _ _ rfl).elim | simp [isAgg, run_underlying hu]
  · cases h

theorem part_sound {t : TypeId} {g : Option Nat} (h : aggT P t = some g) {cs : List SV} {rs : List Value} (hv : VRs P B sh ρ cs rs) {off : Nat} {v : SV}
    (he : (match g with | none => cs[off]? | some n => if off + n ≤ cs.length then some (.agg ((cs.drop off).take n)) else none) = some v) (w : World) :
    ∃ rv, (part t rs.toArray off).run P w = .ok rv w ∧ VR P B sh ρ v rv := by
  obtain ⟨h1, h2⟩ := run_isAgg h w
  cases g with
  | none =>
    obtain ⟨r, hr, hvr⟩ := hv.get he
    exact ⟨r, by simp [part, Sem.run_bind, h1, hr], hvr⟩
  | some n =>
    simp only at he
    split at he
    · cases he
      refine ⟨.agg ((rs.drop off).take n).toArray, ?_, .agg ((hv.drop off).take n)⟩
      have : (rs.toArray.extract off (off + n)) = ((rs.drop off).take n).toArray := by
        apply Array.toList_inj.1
        simp [Array.toList_extract, List.extract_eq_take_drop]
      simp [part, Sem.run_bind, h1, h2 n rfl, this]
    · cases he

theorem run_un {op : UnOp} {x v : SV} (h : unS op x = some v) {rx : Value} (hx : VR P B sh ρ x rx) (w : World) : ∃ rv, (Op.unary op rx).run P w = .ok rv w ∧ VR P B sh ρ v rv := by
  unfold unS at h
  split at h
  · obtain rfl := vr_int hx
    cases h
    exact ⟨_, by simp only [Op.unary, Op.intArith]; rfl, by rw [wrapF_eq]; exact .int _ _⟩
  · obtain rfl := vr_int hx
    cases h
    exact ⟨_, by simp only [Op.unary, Op.intBits]; rfl, .int _ _⟩
  · obtain rfl := vr_bool hx
    cases h
    exact ⟨_, by simp only [Op.unary]; rfl, .bool _⟩
  · cases h

theorem minmax_sound (mx : Bool) : ∀ {xs : List SV} {x v : SV} {rx : Value} {rs : List Value}, minmaxS mx x xs = some v → VR P B sh ρ x rx → VRs P B sh ρ xs rs → ∀ w : World,
    ∃ rv, (rs.foldlM (if mx then Builtin.max2 else Builtin.min2) rx).run P w = .ok rv w ∧ VR P B sh ρ v rv := by
  intro xs
  induction xs with
  | nil => intro x v rx rs h hx hs w; cases hs; simp [minmaxS] at h; subst h; exact ⟨rx, rfl, hx⟩
  | cons y ys ih =>
    intro x v rx rs h hx hs w
    cases hs with
    | cons hy hs =>
      simp only [minmaxS] at h
      split at h
      · rename_i k a k' b
        obtain rfl := vr_int hx
        obtain rfl := vr_int hy
        split at h
        · rename_i hk
          subst hk
          obtain ⟨rv, h1, h2⟩ := ih h (.int _ _) hs w
          refine ⟨rv, ?_, h2⟩
          cases mx
          · simp only [Bool.false_eq_true, if_false] at h1 ⊢
            simp only [List.foldlM_cons, Builtin.min2]
            rw [← h1]
            simp
          · simp only [if_true] at h1 ⊢
            simp only [List.foldlM_cons, Builtin.max2]
            rw [← h1]
            simp
        · cases h
      · cases h

theorem parts_sound {tm : T SV} {ev : Operand → Value} {D : Array Operand} (hX : XR P B sh ρ tm ev D) {parts : Array (Nat × Operand)} (hD : ∀ p ∈ parts.toList, p.2 ∈ D) {places : Nat → Option (Nat × Nat)} {q : List (Nat × Nat × SX)} (hq : compParts places parts.toList = some q) :
    (q.map fun (o, s, x) => (o, s, evX tm x)).length = ((parts.map fun (i, x) => (i, ev x)).toList).length ∧ ∀ (i : Nat) (o s : Nat) (v : SV), (q.map fun (o, s, x) => (o, s, evX tm x))[i]? = some (o, s, v) →
      ∃ j r, (parts.map fun (i, x) => (i, ev x)).toList[i]? = some (j, r) ∧ places j = some (o, s) ∧ VR P B sh ρ v r := by
  obtain ⟨h1, h2⟩ := mapM_some hq
  refine ⟨by simpa using h1.symm, fun i o s v hi => ?_⟩
  simp only [List.getElem?_map, Option.map_eq_some_iff] at hi
  obtain ⟨⟨o', s', x'⟩, hq', he⟩ := hi
  simp only [Prod.mk.injEq] at he
  obtain ⟨rfl, rfl, rfl⟩ := he
  have hlt : i < parts.toList.length := by rw [h1]; exact (List.getElem?_eq_some_iff.1 hq').1
  obtain ⟨y, hy, hm⟩ := h2 i _ (List.getElem?_eq_getElem hlt)
  rw [hq'] at hm
  injection hm with hm
  subst hm
  generalize hp : parts.toList[i] = p at hy
  obtain ⟨j, x⟩ := p
  dsimp only at hy
  split at hy
  · rename_i o2 s2 x2 hp2 hx2
    simp only [Option.some.injEq, Prod.mk.injEq] at hy
    obtain ⟨rfl, rfl, rfl⟩ := hy
    refine ⟨j, ev x, ?_, hp2, hX _ _ (hD (j, x) (hp ▸ List.getElem_mem hlt)) hx2⟩
    simp only [Array.toList_map, List.getElem?_map, List.getElem?_eq_getElem hlt, Option.map_some, hp]
  · cases hy
theorem run_places {fields : Array Field} {places : List (Nat × Nat)} (h : fields.toList.mapM (fun f => (sizeT P f.type).map fun s => (f.offset, s)) = some places) (w : World) :
    (fields.mapM fun f => do pure (f.offset, ← sizeOf f.type) : Sem (Array (Nat × Nat))).run P w = .ok places.toArray w := by
  rw [Array.mapM_eq_mapM_toList]
  have key : ∀ (l : List Field) (ps : List (Nat × Nat)), l.mapM (fun f => (sizeT P f.type).map fun s => (f.offset, s)) = some ps → (l.mapM fun f => do pure (f.offset, ← sizeOf f.type) : Sem (List (Nat × Nat))).run P w = .ok ps w := by
    intro l
    induction l with
    | nil => intro ps h; simp at h; subst h; rfl
    | cons f l ih =>
      intro ps h
      simp only [List.mapM_cons, Option.bind_eq_bind, Option.bind_eq_some_iff, Option.pure_def, Option.some.injEq, Option.map_eq_some_iff] at h
      obtain ⟨y, ⟨s, hs, rfl⟩, ys, hys, rfl⟩ := h
      simp only [List.mapM_cons, Sem.run_bind, run_sizeOf hs, Result.andThen_ok, Sem.run_pure, ih ys hys]
  rw [← bind_pure_comp]
  simp only [Sem.run_bind, key _ _ h, Result.andThen_ok, Sem.run_pure]
theorem build_sound {tm : T SV} {ev : Operand → Value} {D : Array Operand} (hX : XR P B sh ρ tm ev D) {t : TypeId} {parts : Array (Nat × Operand)} (hD : ∀ p ∈ parts.toList, p.2 ∈ D) {zero : List SV} {q : List (Nat × Nat × SX)} {z : SV} (hz : zeroT P t = some z) (hz2 : zero = z.cells)
    (hq : (∃ fields places, P.underlying t = some (.struct fields) ∧ fields.toList.mapM (fun f => (sizeT P f.type).map fun s => (f.offset, s)) = some places ∧ compParts (places[·]?) parts.toList = some q) ∨
      (∃ n elem size, P.underlying t = some (.array n elem) ∧ sizeT P elem = some size ∧ compParts (fun i => some (i * size, size)) parts.toList = some q)) {v : SV} (hv : lBuild zero q tm = some v) (w : World) :
    ∃ rv, (Instr.build t (parts.map fun (i, x) => (i, ev x))).run P w = .ok rv w ∧ VR P B sh ρ v rv := by
  subst hz2
  simp only [lBuild, Option.map_eq_some_iff] at hv
  obtain ⟨cs, hcs, rfl⟩ := hv
  obtain ⟨zv, hzr, hzv⟩ := zeroT_sound (P := P) (B := B) (sh := sh) (ρ := ρ) hz
  rcases hq with ⟨fields, places, hu, hpl, hq⟩ | ⟨n, elem, size, hu, hs, hq⟩
  · obtain ⟨h1, h2⟩ := parts_sound hX hD hq
    obtain ⟨rc, hrc, hvr⟩ := fillS_sound hzv.cells (places[·]?) h1 h2 hcs
    refine ⟨.agg rc, ?_, by simpa using VR.agg hvr⟩
    have hrc' : Instr.fill (fun i => places.toArray[i]?) zv.cells (parts.map fun (i, x) => (i, ev x)).toList = some rc := by rw [← hrc]; congr 1; funext i; simp
    unfold Instr.build
    simp only [Sem.run_bind, hzr, Result.andThen_ok, run_underlying hu, run_places hpl, Sem.run_pure]
    rw [hrc']
    rfl
  · obtain ⟨h1, h2⟩ := parts_sound hX hD hq
    obtain ⟨rc, hrc, hvr⟩ := fillS_sound hzv.cells _ h1 h2 hcs
    refine ⟨.agg rc, ?_, by simpa using VR.agg hvr⟩
    unfold Instr.build
    simp only [Sem.run_bind, hzr, Result.andThen_ok, run_underlying hu, run_sizeOf hs]
    rw [hrc]
    rfl

theorem loc_sound {tm : T SV} {ev : Operand → Value} {o : Oper} (hX : XR P B sh ρ tm ev o.op.operands) {l : LOp} (hc : compOp P o = some (.loc l)) {v : SV} (hv : evLocal l tm = some v) (w : World) :
    ∃ rv, (execOp ev o).run P w = .ok (.value rv) w ∧ VR P B sh ρ v rv := by
  unfold compOp at hc
  split at hc
  case h_1 x ho =>
    rw [ho] at hX
    simp only [Option.map_eq_some_iff] at hc
    obtain ⟨sx, hsx, hl⟩ := hc
    cases hl
    cases hv
    exact ⟨_, by simp [execOp, ho], hX _ _ (by simp [Op.operands]) hsx⟩
  case h_2 x ho =>
    rw [ho] at hX
    simp only [Option.map_eq_some_iff] at hc
    obtain ⟨sx, hsx, hl⟩ := hc
    cases hl
    cases hv
    exact ⟨_, by simp [execOp, ho], hX _ _ (by simp [Op.operands]) hsx⟩
  case h_3 c x y ho =>
    rw [ho] at hX
    split at hc
    · rename_i sc sa sb h1 h2 h3
      cases hc
      simp only [evLocal, lPick] at hv
      have hcv := hX _ _ (by simp [Op.operands]) h1
      split at hv
      · rename_i he
        rw [he] at hcv
        have := vr_bool hcv
        cases hv
        exact ⟨_, by simp only [execOp, ho, this, asBool, Sem.run_bind, Sem.run_pure, Result.andThen_ok, if_true], hX _ _ (by simp [Op.operands]) h2⟩
      · rename_i he
        rw [he] at hcv
        have := vr_bool hcv
        cases hv
        exact ⟨_, by simp only [execOp, ho, this, asBool, Sem.run_bind, Sem.run_pure, Result.andThen_ok, Bool.false_eq_true, if_false], hX _ _ (by simp [Op.operands]) h3⟩
      · cases hv
    · cases hc
  case h_4 => simp at hc
  case h_5 => simp at hc
  case h_6 t parts ho =>
    rw [ho] at hX
    have fin : ∀ {zero q}, lBuild zero q tm = some v → (∀ w, ∃ rv, (Instr.build t (parts.map fun (i, x) => (i, ev x))).run P w = .ok rv w ∧ VR P B sh ρ v rv) → ∃ rv, (execOp ev o).run P w = .ok (.value rv) w ∧ VR P B sh ρ v rv := by
      intro zero q _ h
      obtain ⟨rv, h1, h2⟩ := h w
      exact ⟨rv, by simp only [execOp, ho, Sem.run_bind, h1, Result.andThen_ok, Sem.run_pure], h2⟩
    split at hc
    · rename_i fields z hu hz
      split at hc
      · rename_i places hpl
        simp only [Option.map_eq_some_iff] at hc
        obtain ⟨q, hq, hl⟩ := hc
        cases hl
        exact fin hv fun w => build_sound hX (fun p hp => by simp only [Op.operands, List.mem_toArray]; exact List.mem_map_of_mem hp) hz rfl (.inl ⟨_, _, hu, hpl, hq⟩) hv w
      · cases hc
    · rename_i n elem z hu hz
      split at hc
      · rename_i size hs
        simp only [Option.map_eq_some_iff] at hc
        obtain ⟨q, hq, hl⟩ := hc
        cases hl
        exact fin hv fun w => build_sound hX (fun p hp => by simp only [Op.operands, List.mem_toArray]; exact List.mem_map_of_mem hp) hz rfl (.inr ⟨_, _, _, hu, hs, hq⟩) hv w
      · cases hc
    · cases hc
  case h_7 =>
    repeat' split at hc
    all_goals (first | (cases hc; done) | (simp at hc; done))
  case h_8 =>
    repeat' split at hc
    all_goals (first | (cases hc; done) | (simp at hc; done))
  case h_9 =>
    repeat' split at hc
    all_goals (first | (cases hc; done) | (simp at hc; done))
  case h_10 x ho =>
    rw [ho] at hX
    simp only [Option.map_eq_some_iff] at hc
    obtain ⟨sx, hsx, hl⟩ := hc
    cases hl
    have hxv := hX _ _ (by simp [Op.operands]) hsx
    simp only [evLocal, lNilCheck] at hv
    split at hv
    · rename_i a he
      rw [he] at hxv
      obtain ⟨r, hr, har⟩ := vr_ptr hxv
      cases hv
      exact ⟨.pointer (some r), by simp [execOp, ho, hr], .ptr har⟩
    · rename_i f c he
      rw [he] at hxv
      cases hv
      generalize hev : ev x = r at hxv
      cases hxv with
      | func f h => exact ⟨_, by simp only [execOp, ho, hev]; rfl, .func f h⟩
    · rename_i l he
      rw [he] at hxv
      cases hv
      generalize hev : ev x = r at hxv
      cases hxv with
      | yield h => exact ⟨_, by simp only [execOp, ho, hev]; rfl, .yield h⟩
    · cases hv
  case h_11 op t x y yt ho =>
    rw [ho] at hX
    split at hc
    · rename_i sx sy hx hy
      have hxv := hX _ _ (by simp [Op.operands]) hx
      have hyv := hX _ _ (by simp [Op.operands]) hy
      have fin : ∀ {r : Value}, (do eqGuard op t x y (ev x) (ev y); binOp op t (ev x) (ev y) : Sem Value).run P w = .ok r w → VR P B sh ρ v r → ∃ rv, (execOp ev o).run P w = .ok (.value rv) w ∧ VR P B sh ρ v rv := by
        intro r h1 h2
        refine ⟨r, ?_, h2⟩
        simp only [execOp, ho, Sem.run_bind] at h1 ⊢
        rw [h1]
        rfl
      have eqs : (op = .eql ∨ op = .neq) → (match kindT P t with
          | some 0 => some (SOp.loc (.binB (op == .neq) sx sy))
          | some _ => some (.loc (.bin op sx sy))
          | none => match nilT P t with
            | some k => some (.loc (.binNil (op == .neq) k sx sy))
            | none => (structOffs P t).map fun offs => .loc (.binS (op == .neq) offs sx sy)) = some (.loc l) → ∃ rv, (execOp ev o).run P w = .ok (.value rv) w ∧ VR P B sh ρ v rv := by
        intro hop hc
        split at hc
        · rename_i hk
          cases hc
          simp only [evLocal, lBinB] at hv
          split at hv
          · rename_i a b ha hb
            rw [ha] at hxv
            rw [hb] at hyv
            cases hv
            have e1 := vr_bool hxv
            have e2 := vr_bool hyv
            exact fin (by rw [e1, e2]; exact binB_sound hop hk w) (.bool _)
          · cases hv
        · cases hc
          obtain ⟨rv, h1, h2⟩ := binS_sound (P := P) (t := t) (ox := x) (oy := y) hv hxv hyv w
          exact fin h1 h2
        · split at hc
          · rename_i k hk
            cases hc
            simp only [evLocal, lBinNil, Option.map_eq_some_iff] at hv
            obtain ⟨b, hb, rfl⟩ := hv
            exact fin (nilEq_sound hop hk hb hxv hyv w) (.bool _)
          · simp only [Option.map_eq_some_iff] at hc
            obtain ⟨offs, ho2, hl⟩ := hc
            cases hl
            simp only [evLocal, lBinS] at hv
            split at hv
            · rename_i xs ys ha hb
              rw [ha] at hxv
              rw [hb] at hyv
              simp only [Option.map_eq_some_iff] at hv
              obtain ⟨b, hb2, rfl⟩ := hv
              obtain ⟨rx, e1, h1⟩ := vr_agg hxv
              obtain ⟨ry, e2, h2⟩ := vr_agg hyv
              exact fin (by rw [e1, e2]; exact structEq_sound hop ho2 hb2 h1 h2 w) (.bool _)
            · cases hv
      split at hc
      · exact eqs (.inl rfl) hc
      · exact eqs (.inr rfl) hc
      · cases hc
        obtain ⟨rv, h1, h2⟩ := binS_sound (P := P) (t := t) (ox := x) (oy := y) hv hxv hyv w
        exact fin h1 h2
    · cases hc
  case h_12 op t x ho =>
    rw [ho] at hX
    simp only [Option.map_eq_some_iff] at hc
    obtain ⟨sx, hsx, hl⟩ := hc
    cases hl
    obtain ⟨rv, h1, h2⟩ := run_un (P := P) hv (hX _ _ (by simp [Op.operands]) hsx) w
    exact ⟨rv, by simp only [execOp, ho, Sem.run_bind, h1, Result.andThen_ok, Sem.run_pure], h2⟩
  case h_13 src dst x ho =>
    rw [ho] at hX
    have fin : ∀ {r : Value}, (convert src dst (ev x)).run P w = .ok r w → VR P B sh ρ v r → ∃ rv, (execOp ev o).run P w = .ok (.value rv) w ∧ VR P B sh ρ v rv := by
      intro r h1 h2
      exact ⟨r, by simp only [execOp, ho, Sem.run_bind, h1, Result.andThen_ok, Sem.run_pure], h2⟩
    split at hc
    · rename_i sx k' k hx hs hd
      cases hc
      have hxv := hX _ _ (by simp [Op.operands]) hx
      simp only [evLocal, lConvInt] at hv
      split at hv
      · rename_i k2 n he
        rw [he] at hxv
        have := vr_int hxv
        cases hv
        refine fin (r := .int k (k.wrap n)) (by rw [this]; simp [convert, Sem.run_bind, run_underlying hs, run_underlying hd, Conv.intToInt]) ?_
        rw [wrapF_eq]
        exact .int _ _
      · cases hv
    · rename_i sx k' hx hs hd
      cases hc
      have hxv := hX _ _ (by simp [Op.operands]) hx
      simp only [evLocal, lConvRune] at hv
      split at hv
      · rename_i k2 n he
        rw [he] at hxv
        have := vr_int hxv
        cases hv
        exact fin (by rw [this]; simp [convert, Sem.run_bind, run_underlying hs, run_underlying hd, Conv.intToString]) (.str _)
      · cases hv
    · rename_i sx hx hs hd
      cases hc
      have hxv := hX _ _ (by simp [Op.operands]) hx
      simp only [evLocal, lStrId] at hv
      split at hv
      · rename_i s he
        rw [he] at hxv
        obtain ⟨bs, rfl, e1⟩ := vr_str hxv
        cases hv
        exact fin (by rw [e1]; simp [convert, Sem.run_bind, run_underlying hs, run_underlying hd]) (.str _)
      · cases hv
    all_goals (repeat' split at hc)
    all_goals (first | (cases hc; done) | (simp at hc; done))
  case h_14 t x ho =>
    rw [ho] at hX
    split at hc
    · cases hc
    · rename_i d sx hni hu hx
      cases hc
      cases hv
      refine ⟨.iface t (ev x), ?_, .iface t (hX _ _ (by simp [Op.operands]) hx)⟩
      have : (Instr.makeInterface t (ev x)).run P w = .ok (.iface t (ev x)) w := by
        refine run_makeInterface w t (ev x) ?_
        unfold Program.concrete
        rw [hu]
        cases d <;> first | rfl | exact (hni _ rfl).elim
      simp only [execOp, ho, Sem.run_bind, this, Result.andThen_ok, Sem.run_pure]
    · cases hc
  case h_15 f first captured ho =>
    rw [ho] at hX
    split at hc
    · rename_i hf
      simp only [Option.map_eq_some_iff] at hc
      obtain ⟨q, hq, hl⟩ := hc
      cases hl
      cases hv
      have hf' : first = #[] := by simpa using hf
      have h1 := VR.func (P := P) (B := B) (sh := sh) (ρ := ρ) f (hX.list (fun x hx => by simp only [Op.operands, Array.mem_append]; exact .inr (Array.mem_toList_iff.1 hx)) hq)
      refine ⟨_, ?_, h1⟩
      have h2 : captured.map ev = (captured.toList.map ev).toArray := by rw [← Array.toList_map]
      simp [execOp, ho, Instr.makeFunc, hf', h2]
    · cases hc
  case h_18 t x lo hi mx ho =>
    rw [ho] at hX
    split at hc
    · rename_i sx slo shi smx hx hlo hhi hmx
      have hxv := hX _ _ (by simp [Op.operands]) hx
      have fin : ∀ {r : Value}, (Instr.slice t (ev x) (lo.map ev) (hi.map ev) (mx.map ev)).run P w = .ok r w → (∀ n e, P.underlying t ≠ some (.array n e)) → (∃ d, P.underlying t = some d) → VR P B sh ρ v r → ∃ rv, (execOp ev o).run P w = .ok (.value rv) w ∧ VR P B sh ρ v rv := by
        intro r h1 h2 ⟨d, h3⟩ h4
        have : (Instr.sliceAt t (ev x) (lo.map ev) (hi.map ev) (mx.map ev)).run P w = .ok r w := by
          unfold Instr.sliceAt
          simp only [Sem.run_bind, run_underlying h3, Result.andThen_ok]
          cases d <;> first | exact h1 | exact (h2 _ _ h3).elim
        exact ⟨r, by simp only [execOp, ho, Sem.run_bind, this, Result.andThen_ok, Sem.run_pure], h4⟩
      split at hc
      · rename_i hu
        split at hc
        · cases hc
        · rename_i hmn
          cases hc
          simp only [evLocal, lSliceS] at hv
          split at hv
          · rename_i s he
            rw [he] at hxv
            obtain ⟨bs, rfl, e1⟩ := vr_str hxv
            obtain ⟨rv, h1, h2⟩ := sliceStr_sound hv (hX.opt (fun y hy => by subst hy; simp [Op.operands]) hlo) (hX.opt (fun y hy => by subst hy; simp [Op.operands]) hhi) hu w
            have hmn' : mx = none := by
              cases mx with
              | none => rfl
              | some q => simp at hmx; obtain ⟨y, _, rfl⟩ := hmx; simp at hmn
            subst hmn'
            exact fin (by rw [e1]; exact h1) (by rw [hu]; simp) ⟨_, hu⟩ h2
          · cases hv
      · rename_i e hu
        simp only [Option.map_eq_some_iff] at hc
        obtain ⟨s, hs, hl⟩ := hc
        cases hl
        obtain ⟨rv, h1, h2⟩ := sliceSl_sound hv hxv (hX.opt (fun y hy => by subst hy; simp [Op.operands]) hlo) (hX.opt (fun y hy => by subst hy; simp [Op.operands]) hhi) (hX.opt (fun y hy => by subst hy; simp [Op.operands]) hmx) hu hs w
        exact fin h1 (by rw [hu]; simp) ⟨_, hu⟩ h2
      · cases hc
    · cases hc
  case h_19 s x f ho =>
    rw [ho] at hX
    split at hc
    · rename_i fields sx hu hx
      split at hc
      · rename_i fd hfd
        split at hc
        · rename_i sz hsz
          split at hc
          · cases hc
          · rename_i hnz
            cases hc
            have hxv := hX _ _ (by simp [Op.operands]) hx
            simp only [evLocal, lFieldAddr] at hv
            split at hv
            · rename_i a he
              rw [he] at hxv
              obtain ⟨r, e1, har⟩ := vr_ptr hxv
              cases hv
              refine ⟨.pointer (some (r.add fd.offset)), ?_, .ptr (har.add _)⟩
              have : (Instr.fieldAt s (ev x) f).run P w = .ok (.pointer (some (r.add fd.offset))) w := by
                rw [e1]
                simp [Instr.fieldAt, Sem.run_bind, run_underlying hu, hfd, Instr.sureAddr, fieldPlace, run_sizeOf hsz, hnz]
              simp only [execOp, ho, Sem.run_bind, this, Result.andThen_ok, Sem.run_pure]
            · cases hv
        · cases hc
      · cases hc
    · cases hc
  case h_20 t x f ho =>
    rw [ho] at hX
    split at hc
    · rename_i fields sx hu hx
      split at hc
      · rename_i fd hfd
        simp only [Option.map_eq_some_iff] at hc
        obtain ⟨g, hg, hl⟩ := hc
        cases hl
        have hxv := hX _ _ (by simp [Op.operands]) hx
        simp only [evLocal, lField] at hv
        split at hv
        · rename_i cs he
          rw [he] at hxv
          obtain ⟨rs, e1, hrs⟩ := vr_agg hxv
          obtain ⟨rv, h1, h2⟩ := part_sound hg hrs (off := fd.offset) (v := v) (by cases g <;> exact hv) w
          refine ⟨rv, ?_, h2⟩
          have : (Instr.field t (ev x) f).run P w = .ok rv w := by
            rw [e1]
            simp [Instr.field, Sem.run_bind, run_underlying hu, hfd, asAgg, h1]
          simp only [execOp, ho, Sem.run_bind, this, Result.andThen_ok, Sem.run_pure]
        · cases hv
      · cases hc
    · cases hc
  case h_21 t x i ho =>
    rw [ho] at hX
    split at hc
    · rename_i e sx si hu hx hi
      simp only [Option.map_eq_some_iff] at hc
      obtain ⟨s, hs, hl⟩ := hc
      cases hl
      have hxv := hX _ _ (by simp [Op.operands]) hx
      have hiv := hX _ _ (by simp [Op.operands]) hi
      simp only [evLocal, lIndexAddr] at hv
      split at hv
      · rename_i a len cap k n he hei
        rw [he] at hxv
        rw [hei] at hiv
        have ei := vr_int hiv
        split at hv
        · rename_i hb
          cases hv
          have hnz : len ≠ 0 := by omega
          obtain ⟨r, c, e1, har⟩ : ∃ r c, ev x = .slice (some r) len c ∧ AR ρ a r := by
            generalize hq : ev x = q at hxv
            cases hxv with
            | slice n c h => exact ⟨_, _, rfl, h⟩
            | sliceU n c s h => exact ⟨_, _, rfl, h⟩
            | sliceZ => exact absurd rfl hnz
            | sliceZ0 => exact absurd rfl hnz
          refine ⟨.pointer (some (r.add (n.toNat * s))), ?_, .ptr (har.add _)⟩
          have : (Instr.indexAt t (ev x) (ev i)).run P w = .ok (.pointer (some (r.add (n.toNat * s)))) w := by
            rw [e1, ei]
            simp [Instr.indexAt, asIntOf, Sem.run_bind, run_underlying hu, hb, run_sizeOf hs]
          simp only [execOp, ho, Sem.run_bind, this, Result.andThen_ok, Sem.run_pure]
        · cases hv
      · cases hv
    · rename_i m e sx si hu hx hi
      simp only [Option.map_eq_some_iff] at hc
      obtain ⟨s, hs, hl⟩ := hc
      cases hl
      have hxv := hX _ _ (by simp [Op.operands]) hx
      have hiv := hX _ _ (by simp [Op.operands]) hi
      simp only [evLocal, lIndexArr] at hv
      split at hv
      · rename_i a k n he hei
        rw [he] at hxv
        rw [hei] at hiv
        have ei := vr_int hiv
        split at hv
        · rename_i hb
          cases hv
          obtain ⟨r, e1, har⟩ := vr_ptr hxv
          refine ⟨.pointer (some (r.add (n.toNat * s))), ?_, .ptr (har.add _)⟩
          have : (Instr.indexAt t (ev x) (ev i)).run P w = .ok (.pointer (some (r.add (n.toNat * s)))) w := by
            rw [e1, ei]
            simp [Instr.indexAt, asIntOf, Sem.run_bind, run_underlying hu, hb, run_sizeOf hs, Instr.sureAddr]
          simp only [execOp, ho, Sem.run_bind, this, Result.andThen_ok, Sem.run_pure]
        · cases hv
      · cases hv
    · cases hc
  case h_22 t x i ho =>
    rw [ho] at hX
    split at hc
    · rename_i sx si hu hx hi
      cases hc
      have hxv := hX _ _ (by simp [Op.operands]) hx
      have hiv := hX _ _ (by simp [Op.operands]) hi
      simp only [evLocal, lIndexS] at hv
      split at hv
      · rename_i s k n he hei
        rw [he] at hxv
        rw [hei] at hiv
        have ei := vr_int hiv
        obtain ⟨bs, rfl, e1⟩ := vr_str hxv
        split at hv
        · rename_i hb
          cases hv
          rw [Str.of_len] at hb
          have hlt : n.toNat < bs.size := by omega
          rw [Str.get_of bs _ hlt]
          refine ⟨_, ?_, .int _ _⟩
          have : (Instr.index t (ev x) (ev i)).run P w = .ok (.int .u8 (bs[n.toNat]'hlt).toNat) w := by
            rw [e1, ei]
            have hg : bs[n.toNat]? = some (bs[n.toNat]'hlt) := by simp [getElem?_pos, hlt]
            simp [Instr.index, asIntOf, Sem.run_bind, run_underlying hu, hb.1, hg]
          simp only [execOp, ho, Sem.run_bind, this, Result.andThen_ok, Sem.run_pure]
        · cases hv
      · cases hv
    · cases hc
  case h_29 x i ho =>
    rw [ho] at hX
    simp only [Option.map_eq_some_iff] at hc
    obtain ⟨sx, hsx, hl⟩ := hc
    cases hl
    have hxv := hX _ _ (by simp [Op.operands]) hsx
    simp only [evLocal, lExtract] at hv
    split at hv
    · rename_i vs he
      rw [he] at hxv
      obtain ⟨rs, e1, hrs⟩ := vr_tuple hxv
      obtain ⟨r, hr, hvr⟩ := hrs.get hv
      refine ⟨r, ?_, hvr⟩
      have : (Instr.extract (ev x) i).run P w = .ok r w := by rw [e1]; simp [Instr.extract, hr]
      simp only [execOp, ho, Sem.run_bind, this, Result.andThen_ok, Sem.run_pure]
    · cases hv
  case h_30 c ho =>
    rw [ho] at hX
    split at hc
    · repeat' split at hc
      all_goals (first | (cases hc; done) | (simp at hc; done))
    · rename_i b args hcal hargs
      have hb : ∀ {s : Sem Value} {r : Value}, (∀ cs, builtin b c.argTypes o.type cs (c.args.map ev) = (do pure (.value (← s)))) → s.run P w = .ok r w → VR P B sh ρ v r → ∃ rv, (execOp ev o).run P w = .ok (.value rv) w ∧ VR P B sh ρ v rv := by
        intro s r h1 h2 h3
        refine ⟨r, ?_, h3⟩
        simp only [execOp, ho, resolve, hcal, Sem.run_bind, Sem.run_pure, Result.andThen_ok, invoke]
        rw [h1]
        simp only [Sem.run_bind, h2, Result.andThen_ok, Sem.run_pure]
      have hvs := hX.list (fun x hx => by simp only [Op.operands, Call.operands, Array.mem_append]; exact .inr (Array.mem_toList_iff.1 hx)) hargs
      have hev : (c.args.map ev).toList = c.args.toList.map ev := by simp
      have one : ∀ {x : SX}, args = [x] → ∃ r, c.args.map ev = #[r] ∧ VR P B sh ρ (evX tm x) r := by
        intro x hx
        subst hx
        rw [← hev] at hvs
        generalize c.args.map ev = arr at hvs
        obtain ⟨l⟩ := arr
        simp only [List.map_cons, List.map_nil] at hvs
        cases hvs with
        | cons h t => cases t; exact ⟨_, rfl, h⟩
      have ty1 : ∀ {t : TypeId}, c.argTypes.toList = [t] → c.argTypes = #[t] := fun h => by rw [← Array.toArray_toList (xs := c.argTypes), h]
      split at hc
      · rename_i x t hta
        obtain ⟨r, hr, hrv⟩ := one rfl
        split at hc
        · rename_i hu
          cases hc
          simp only [evLocal, lLenS] at hv
          split at hv
          · rename_i s he
            rw [he] at hrv
            obtain ⟨bs, rfl, rfl⟩ := vr_str hrv
            cases hv
            exact hb (r := .int .i64 bs.size) (fun cs => rfl) (by rw [hr, ty1 hta]; simp [Builtin.len_, Sem.run_bind, run_underlying hu, goInt]) (by rw [Str.of_len]; exact .int _ _)
          · cases hv
        · rename_i e hu
          cases hc
          simp only [evLocal, lLen] at hv
          split at hv
          · rename_i a n cp he
            rw [he] at hrv
            cases hv
            have hrr : ∃ a c, r = .slice a n c := by cases hrv <;> exact ⟨_, _, rfl⟩
            obtain ⟨a', c', rfl⟩ := hrr
            exact hb (fun cs => rfl) (by rw [hr, ty1 hta]; simp [Builtin.len_, Sem.run_bind, run_underlying hu, goInt]) (.int _ _)
          · cases hv
        · cases hc
        · cases hc
      · rename_i x t hta
        obtain ⟨r, hr, hrv⟩ := one rfl
        split at hc
        · rename_i e hu
          cases hc
          simp only [evLocal, lCap] at hv
          split at hv
          · rename_i a n cp he
            rw [he] at hrv
            cases hv
            have hrr : ∃ a n, r = .slice a n cp := by cases hrv <;> exact ⟨_, _, rfl⟩
            obtain ⟨a', c', rfl⟩ := hrr
            exact hb (fun cs => rfl) (by rw [hr, ty1 hta]; simp [Builtin.cap_, Sem.run_bind, run_underlying hu, goInt]) (.int _ _)
          · cases hv
        · cases hc
      · rename_i xs ts
        cases hc
        simp only [evLocal, lMinmax] at hv
        split at hv
        · rename_i x ys he
          rw [he, ← hev] at hvs
          generalize hg : c.args.map ev = arr at hvs
          obtain ⟨l⟩ := arr
          cases hvs with
          | cons h t =>
            obtain ⟨rv, h1, h2⟩ := minmax_sound (P := P) true hv h t w
            exact hb (fun cs => rfl) (by rw [hg]; simpa [Builtin.max_] using h1) h2
        · cases hv
      · rename_i xs ts
        cases hc
        simp only [evLocal, lMinmax] at hv
        split at hv
        · rename_i x ys he
          rw [he, ← hev] at hvs
          generalize hg : c.args.map ev = arr at hvs
          obtain ⟨l⟩ := arr
          cases hvs with
          | cons h t =>
            obtain ⟨rv, h1, h2⟩ := minmax_sound (P := P) false hv h t w
            exact hb (fun cs => rfl) (by rw [hg]; simpa [Builtin.min_] using h1) h2
        · cases hv
      all_goals (repeat' split at hc)
      all_goals (first | (cases hc; done) | (simp at hc; done))
    · cases hc
  case h_16 =>
    repeat' split at hc
    all_goals (first | (cases hc; done) | (simp at hc; done))
  case h_17 =>
    repeat' split at hc
    all_goals (first | (cases hc; done) | (simp at hc; done))
  case h_23 =>
    repeat' split at hc
    all_goals (first | (cases hc; done) | (simp at hc; done))
  case h_24 =>
    repeat' split at hc
    all_goals (first | (cases hc; done) | (simp at hc; done))
  case h_25 =>
    repeat' split at hc
    all_goals (first | (cases hc; done) | (simp at hc; done))
  case h_26 =>
    repeat' split at hc
    all_goals (first | (cases hc; done) | (simp at hc; done))
  case h_27 =>
    repeat' split at hc
    all_goals (first | (cases hc; done) | (simp at hc; done))
  case h_28 =>
    repeat' split at hc
    all_goals (first | (cases hc; done) | (simp at hc; done))
  case h_31 =>
    repeat' split at hc
    all_goals (first | (cases hc; done) | (simp at hc; done))
end
end Go.Sh
