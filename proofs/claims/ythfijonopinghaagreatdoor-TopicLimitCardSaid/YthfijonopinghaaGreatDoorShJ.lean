/-
  The shadow machine, part J: the operations with memory, second part: maps, copy, clear.
-/
import Derived.Test.YthfijonopinghaaGreatDoorShI
import Derived.MapKept
set_option linter.unusedSimpArgs false
set_option linter.unusedVariables false
namespace Go.Sh
section
variable {C : Cx} {ρ : Ren} {σ : SSt} {w : World} {hi : Nat} {Q : SV × SSt → Prop}

/-! ### Keys -/
theorem keyT_cases {P : Program} {t : TypeId} {kk : Nat} (h : keyT P t = some kk) : ∃ key elem, P.underlying t = some (.map key elem) ∧ ((∃ k, P.underlying key = some (.int k) ∧ kk = 1) ∨ (P.underlying key = some .string ∧ kk = 2)) := by
  unfold keyT at h
  split at h
  · rename_i key elem hu
    split at h
    · rename_i k hk
      cases h
      exact ⟨key, elem, hu, .inl ⟨k, hk, rfl⟩⟩
    · rename_i hk
      cases h
      exact ⟨key, elem, hu, .inr ⟨hk, rfl⟩⟩
    · cases h
  · cases h
abbrev KeyK (P : Program) (key : TypeId) (kk : Nat) : Prop := (∃ k, P.underlying key = some (.int k) ∧ kk = 1) ∨ (P.underlying key = some .string ∧ kk = 2)
theorem run_checkKeyS {P : Program} {key : TypeId} {kk : Nat} (hk : KeyK P key kk) (em : Bool) (v : Value) (w : World) : (Instr.checkKey em 10000 key v).run P w = .ok () w := by
  rw [show (10000 : Nat) = 9999 + 1 from rfl, Instr.checkKey]
  rcases hk with ⟨k, hk, _⟩ | ⟨hk, _⟩ <;> simp [Sem.run_bind, run_underlying hk]
theorem ba_beq (a b : ByteArray) : (a == b) = (a.toList == b.toList) := by
  have : (a == b) = (a.data == b.data) := by cases a; cases b; rfl
  rw [this, Bool.eq_iff_iff, beq_iff_eq, beq_iff_eq, ByteArray.toList_eq, ByteArray.toList_eq]
  constructor
  · intro h; rw [h]
  · intro h
    apply Array.ext'
    exact h
theorem ba_eq {a b : ByteArray} (h : (a == b) = true) : a = b := by
  rw [ba_beq, beq_iff_eq, ByteArray.toList_eq, ByteArray.toList_eq] at h
  apply ByteArray.ext
  apply Array.ext'
  exact h
theorem ba_refl (a : ByteArray) : (a == a) = true := by rw [ba_beq]; exact beq_self_eq_true _
theorem sameNow_sound {P : Program} {B : Nat} {sh : Shp} {key : TypeId} {kk : Nat} (hk : KeyK P key kk) {d : TypeDesc} (hd : P.underlying key = some d) {x y : SV} {b : Bool} (h : plainEq kk x y = some b) {rx ry : Value} (hx : VR P B sh ρ x rx) (hy : VR P B sh ρ y ry) :
    Instr.sameNow d rx ry = some b ∧ (b = true → rx = ry) := by
  unfold plainEq at h
  split at h
  · rename_i k a k' a'
    obtain rfl := vr_int hx
    obtain rfl := vr_int hy
    split at h
    · rename_i hb
      rw [Bool.and_eq_true] at hb
      have h1 := Nat.eq_of_beq_eq_true hb.1
      obtain rfl := sameK_eq hb.2
      cases h
      rw [eqI_eq]
      rcases hk with ⟨k2, hk, _⟩ | ⟨_, h2⟩
      · rw [hk] at hd; cases hd
        exact ⟨by simp [Instr.sameNow], fun e => by rw [beq_iff_eq] at e; rw [e]⟩
      · omega
    · cases h
  · rename_i a a'
    obtain ⟨s, rfl, rfl⟩ := vr_str hx
    obtain ⟨s', rfl, rfl⟩ := vr_str hy
    split at h
    · rename_i hb
      have h1 := Nat.eq_of_beq_eq_true hb
      cases h
      rw [Str.eq_of, ← ba_beq]
      rcases hk with ⟨k2, hk, h2⟩ | ⟨hk, h2⟩
      · omega
      · rw [hk] at hd; cases hd
        exact ⟨by simp [Instr.sameNow], fun e => by rw [ba_eq e]⟩
    · cases h
  · rename_i a a'
    split at h
    · rename_i hb
      have h1 := Nat.eq_of_beq_eq_true hb
      rcases hk with ⟨k2, hk, h2⟩ | ⟨hk, h2⟩ <;> omega
    · cases h
  · cases h
theorem find_sound {P : Program} {B : Nat} {sh : Shp} {key : TypeId} {kk : Nat} (hk : KeyK P key kk) {d : TypeDesc} (hd : P.underlying key = some d) {k : SV} {rk : Value} (hv : VR P B sh ρ k rk) :
    ∀ {es : List (SV × SV × Nat)} {rs : List MapEntry} (i : Nat) {r : Option (Nat × SV)}, EsR P B sh ρ es rs → findE kk k es i = some r →
    match r with
    | none => Instr.findNow d rk rs i = some none
    | some (j, v) => ∃ e, Instr.findNow d rk rs i = some (some (j, e.val)) ∧ i ≤ j ∧ rs[j - i]? = some e ∧ e.key = rk ∧ VR P B sh ρ v e.val := by
  intro es
  induction es with
  | nil =>
    intro rs i r he h
    cases he
    simp only [findE, Option.some.injEq] at h
    subst h
    rfl
  | cons e es ih =>
    intro rs i r he h
    cases he with
    | cons hk1 hv1 hb1 ht =>
      rename_i k' v' n e' rs'
      simp only [findE] at h
      split at h
      · rename_i hp
        cases h
        obtain ⟨h1, h2⟩ := sameNow_sound hk hd hp hv hk1
        exact ⟨e', by simp [Instr.findNow, h1], Nat.le_refl _, by simp, (h2 rfl).symm, hv1⟩
      · rename_i hp
        obtain ⟨h1, h2⟩ := sameNow_sound hk hd hp hv hk1
        have h3 := ih (i + 1) ht h
        cases r with
        | none => simp only [Instr.findNow, h1]; exact h3
        | some p =>
          obtain ⟨j, v⟩ := p
          obtain ⟨e2, h4, h5, h6, h7, h8⟩ := h3
          refine ⟨e2, by simp only [Instr.findNow, h1]; exact h4, by omega, ?_, h7, h8⟩
          rw [show j - i = (j - (i + 1)) + 1 by omega]
          simpa using h6
      · cases h
theorem run_findKeyS {P : Program} {key : TypeId} {d : TypeDesc} (hd : P.underlying key = some d) {rk : Value} {rs : List MapEntry} {r : Option (Nat × Value)} (h : Instr.findNow d rk rs 0 = some r) (w : World) : (Instr.findKey key rk rs).run P w = .ok r w := by
  simp [Instr.findKey, Sem.run_bind, run_underlying hd, h]
theorem KeyK.und {P : Program} {key : TypeId} {kk : Nat} (hk : KeyK P key kk) : ∃ d, P.underlying key = some d := by
  rcases hk with ⟨k, hk, _⟩ | ⟨hk, _⟩ <;> exact ⟨_, hk⟩
theorem keyS_same {P : Program} {B : Nat} {sh : Shp} {k : SV} {rk : Value} (hv : VR P B sh ρ k rk) (h : keyS k = true) : Instr.sameBits 10000 rk rk = true := by
  cases hv <;> first | (simp [keyS] at h; done) | simp [Instr.sameBits, ba_refl]

/-! ### Entries -/
section
variable {P : Program} {B : Nat} {sh : Shp}
theorem EsR.length : ∀ {es : List (SV × SV × Nat)} {rs : List MapEntry}, EsR P B sh ρ es rs → es.length = rs.length
  | _, _, .nil => rfl
  | _, _, .cons _ _ _ t => by simp [EsR.length t]
theorem EsR.append : ∀ {es : List (SV × SV × Nat)} {rs : List MapEntry} {es' : List (SV × SV × Nat)} {rs' : List MapEntry}, EsR P B sh ρ es rs → EsR P B sh ρ es' rs' → EsR P B sh ρ (es ++ es') (rs ++ rs')
  | _, _, _, _, .nil, h => h
  | _, _, _, _, .cons hk hv hb t, h => .cons hk hv hb (EsR.append t h)
theorem EsR.eraseIdx : ∀ {es : List (SV × SV × Nat)} {rs : List MapEntry}, EsR P B sh ρ es rs → ∀ i, EsR P B sh ρ (es.eraseIdx i) (rs.eraseIdx i)
  | _, _, .nil, i => by simpa using EsR.nil
  | _, _, .cons hk hv hb t, 0 => t
  | _, _, .cons hk hv hb t, i + 1 => .cons hk hv hb (EsR.eraseIdx t i)
theorem EsR.modify {k v : SV} {rk rv : Value} (hk : VR P B sh ρ k rk) (hv : VR P B sh ρ v rv) : ∀ {es : List (SV × SV × Nat)} {rs : List MapEntry}, EsR P B sh ρ es rs → ∀ i,
    EsR P B sh ρ (es.modify i fun (_, _, b) => (k, v, b)) (rs.modify i fun e => { e with key := rk, val := rv })
  | _, _, .nil, i => by simpa using EsR.nil
  | _, _, .cons hk' hv' hb t, 0 => by simpa using EsR.cons (e := { key := rk, val := rv, born := _ }) hk hv hb t
  | _, _, .cons hk' hv' hb t, i + 1 => by simpa using EsR.cons hk' hv' hb (EsR.modify hk hv t i)
theorem EsR.filter {p : SV × SV × Nat → Bool} {q : MapEntry → Bool} (hpq : ∀ k v n e, e.born = n → p (k, v, n) = q e) : ∀ {es : List (SV × SV × Nat)} {rs : List MapEntry}, EsR P B sh ρ es rs → EsR P B sh ρ (es.filter p) (rs.filter q)
  | _, _, .nil => .nil
  | _, _, .cons (k := k) (v := v) (n := n) (e := e) hk hv hb t => by
    rw [List.filter_cons, List.filter_cons, hpq k v n e hb]
    cases q e with
    | true => exact .cons hk hv hb (EsR.filter hpq t)
    | false => exact EsR.filter hpq t
theorem EsR.all {p : SV × SV × Nat → Bool} {q : MapEntry → Bool} (hpq : ∀ k v n e, e.born = n → p (k, v, n) = q e) : ∀ {es : List (SV × SV × Nat)} {rs : List MapEntry}, EsR P B sh ρ es rs → es.all p = rs.all q
  | _, _, .nil => rfl
  | _, _, .cons (k := k) (v := v) (n := n) (e := e) hk hv hb t => by rw [List.all_cons, List.all_cons, hpq k v n e hb, EsR.all hpq t]
theorem EsR.get : ∀ {es : List (SV × SV × Nat)} {rs : List MapEntry}, EsR P B sh ρ es rs → ∀ {i : Nat} {x : SV × SV × Nat}, es[i]? = some x → ∃ e, rs[i]? = some e ∧ VR P B sh ρ x.1 e.key ∧ VR P B sh ρ x.2.1 e.val ∧ e.born = x.2.2
  | _, _, .nil, i, x, h => by simp at h
  | _, _, .cons hk hv hb t, 0, x, h => by simp at h; subst h; exact ⟨_, rfl, hk, hv, hb⟩
  | _, _, .cons hk hv hb t, i + 1, x, h => by simpa using EsR.get t (by simpa using h)
theorem EsR.find {p : SV × SV × Nat → Bool} {q : MapEntry → Bool} (hpq : ∀ k v n e, e.born = n → p (k, v, n) = q e) : ∀ {es : List (SV × SV × Nat)} {rs : List MapEntry}, EsR P B sh ρ es rs → ∀ {x : SV × SV × Nat}, es.find? p = some x →
    ∃ e, rs.find? q = some e ∧ VR P B sh ρ x.1 e.key ∧ VR P B sh ρ x.2.1 e.val
  | _, _, .nil, x, h => by simp at h
  | _, _, .cons (k := k) (v := v) (n := n) (e := e) hk hv hb t, x, h => by
    rw [List.find?_cons] at h ⊢
    rw [hpq k v n e hb] at h
    cases hq : q e with
    | true => rw [hq] at h; simp only [Option.some.injEq] at h; subst h; exact ⟨e, rfl, hk, hv⟩
    | false => rw [hq] at h; exact EsR.find hpq t h
end

/-! ### The operations on maps -/
theorem vr_map {P : Program} {B : Nat} {sh : Shp} {k : Nat} {r : Value} (h : VR P B sh ρ (.map (some k)) r) : ∃ b, r = .map (some b) ∧ ρ k = some (b, 0) := by cases h; exact ⟨_, rfl, ‹_›⟩
theorem vr_mapNil {P : Program} {B : Nat} {sh : Shp} {r : Value} (h : VR P B sh ρ (.map none) r) : r = .map none := by cases h; rfl
theorem Sim.map (h : Sim C ρ σ w) {k b : Nat} {es : List (SV × SV × Nat)} {clock : Nat} (hk : σ.heap.get k = some (.map es clock)) (hr : ρ k = some (b, 0)) : ∃ rs, w.heap[b]? = some (.map rs clock) ∧ EsR C.P C.B (World.shp w) ρ es rs.toList := by
  obtain ⟨b', off, h1, _, _, rs, h2, h3⟩ := h.objs _ _ hk
  rw [hr] at h1
  cases h1
  exact ⟨rs, h2, h3⟩
theorem lookup_sound (h : Sim C ρ σ w) {t elem : TypeId} {key : TypeId} {kk : Nat} {z : SV} (ht : C.P.underlying t = some (.map key elem)) (hk : KeyK C.P key kk) (hz : zeroT C.P elem = some z) {ok : Bool} {x k : SX} {rx rk : Value} {tm : T SV}
    (hx : VR C.P C.B (World.shp w) ρ (evX tm x) rx) (hkv : VR C.P C.B (World.shp w) ρ (evX tm k) rk) (he : Al (mLookup kk z ok x k tm σ) hi Q) : Does C ρ σ w (Instr.lookup t rx rk ok) Q := by
  obtain ⟨d, hd⟩ := hk.und
  obtain ⟨vz, hvz, hvzr⟩ := zeroT_sound (B := C.B) (sh := World.shp w) (ρ := ρ) hz
  -- the entries
  have main : ∀ (es : List (SV × SV × Nat)) (rs : Array MapEntry), EsR C.P C.B (World.shp w) ρ es rs.toList →
      (∀ (p : Option (Nat × Value)), (Instr.findKey key rk rs.toList).run C.P w = .ok p w →
        (Instr.lookup t rx rk ok).run C.P w = .ok (if ok then .tuple #[(p.map (·.2)).getD vz, .bool p.isSome] else (p.map (·.2)).getD vz) w) →
      Ev.all (fun r => r.2.next ≤ hi ∧ Q r) (match findE kk (evX tm k) es 0 with
      | none => .fail
      | some r =>
        let (v, b) := match r with
          | some (_, v) => (v, true)
          | none => (z, false)
        .ok (if ok then .tuple [v, .bool b] else v, σ)) → Does C ρ σ w (Instr.lookup t rx rk ok) Q := by
    intro es rs hes hrun he
    split at he
    · exact he.elim
    · rename_i r hr
      have hfs := find_sound hk hd hkv 0 hes hr
      cases r with
      | none =>
        refine ⟨_, _, _, _, w, he.2, Ok.refl h, hrun _ (run_findKeyS hd hfs w), ?_⟩
        cases ok with
        | true => exact .tuple (rs := [vz, .bool false]) (.cons hvzr (.cons (.bool _) .nil))
        | false => exact hvzr
      | some p =>
        obtain ⟨j, v⟩ := p
        obtain ⟨e, h1, _, _, _, h5⟩ := hfs
        refine ⟨_, _, _, _, w, he.2, Ok.refl h, hrun _ (run_findKeyS hd h1 w), ?_⟩
        cases ok with
        | true => exact .tuple (rs := [e.val, .bool true]) (.cons h5 (.cons (.bool _) .nil))
        | false => exact h5
  simp only [Al, mLookup] at he
  split at he
  · exact he.elim
  · rename_i es hes
    split at hes
    · rename_i hm
      cases hes
      rw [hm] at hx
      obtain rfl := vr_mapNil hx
      refine main [] #[] .nil (fun p hp => ?_) he
      cases p <;> simp [Instr.lookup, Sem.run_bind, run_underlying ht, run_checkKeyS hk, hp, hvz w]
    · rename_i r hm
      rw [hm] at hx
      obtain ⟨b, rfl, hb⟩ := vr_map hx
      split at hes
      · rename_i es' clock hg
        cases hes
        obtain ⟨rs, h1, h2⟩ := h.map hg hb
        refine main es rs h2 (fun p hp => ?_) he
        cases p <;> simp [Instr.lookup, Sem.run_bind, run_underlying ht, run_checkKeyS hk, hp, hvz w, MapKept.run_getObj_map h1]
      · cases hes
    · cases hes
theorem shape_map {b : Nat} {rs : Array MapEntry} {clock : Nat} (h : w.heap[b]? = some (.map rs clock)) (p : TypeId × Nat) : w.shape? b ≠ some p := by
  unfold World.shape?; rw [h]; simp
theorem putMap_sound (h : Sim C ρ σ w) {k b : Nat} {es es' : List (SV × SV × Nat)} {clock clock' : Nat} (hk : σ.heap.get k = some (.map es clock)) (hr : ρ k = some (b, 0)) {rs rs' : Array MapEntry} (hw : w.heap[b]? = some (.map rs clock)) (he : EsR C.P C.B (World.shp w) ρ es' rs'.toList) :
    Ok C ρ σ w ρ (σ.put k (some (.map es' clock'))) (World.putO w b (.map rs' clock')) := by
  refine Ok.put h hk hr (fun p hp => absurd hp (shape_map hw p)) fun hsh => ⟨rfl, rs', ?_, he.mono hsh (fun _ _ h => h)⟩
  rw [putO_heap _ _ _ _ (Array.getElem?_eq_some_iff.1 hw).1, if_pos rfl]
theorem mapUpdate_sound (h : Sim C ρ σ w) {t elem : TypeId} {key : TypeId} {kk : Nat} (ht : C.P.underlying t = some (.map key elem)) (hk : KeyK C.P key kk) {x k v : SX} {rx rk rv : Value} {tm : T SV}
    (hx : VR C.P C.B (World.shp w) ρ (evX tm x) rx) (hkv : VR C.P C.B (World.shp w) ρ (evX tm k) rk) (hv : VR C.P C.B (World.shp w) ρ (evX tm v) rv) (he : Al (mMapUpdate kk x k v tm σ) hi Q) : DoesU C ρ σ w (Instr.mapUpdate t rx rk rv) Q := by
  obtain ⟨d, hd⟩ := hk.und
  simp only [Al, mMapUpdate] at he
  split at he
  · rename_i r hm
    rw [hm] at hx
    obtain ⟨b, rfl, hb⟩ := vr_map hx
    split at he
    · rename_i es clock hg
      obtain ⟨rs, h1, h2⟩ := h.map hg hb
      split at he
      · rename_i i v' hks hf
        obtain ⟨e, h3, _, h4, h5, _⟩ := find_sound hk hd hkv 0 h2 hf
        have hfk := run_findKeyS hd h3 w
        have hsb := keyS_same hkv hks
        have h4' : rs[i]? = some e := by simpa using h4
        have hst := MapKept.run_setObj_map (P := C.P) (.map (rs.modify i fun e => { e with key := rk, val := rv }) clock) h1
        refine ⟨_, ρ, World.putO w b (.map (rs.modify i fun e => { e with key := rk, val := rv }) clock), he.2, putMap_sound h hg hb h1 ?_, ?_⟩
        · rw [Array.toList_modify]
          exact EsR.modify hkv hv h2 i
        · simp [Instr.mapUpdate, Sem.run_bind, run_underlying ht, MapKept.run_getObj_map h1, run_checkKeyS hk, hfk, h4', h5, Instr.keyThatStays, hsb, hst, World.putO]
      · rename_i hks hf
        have h3 := find_sound hk hd hkv 0 h2 hf
        have hfk := run_findKeyS hd h3 w
        have hst := MapKept.run_setObj_map (P := C.P) (.map (rs.push { key := rk, val := rv, born := clock }) (clock + 1)) h1
        refine ⟨_, ρ, World.putO w b (.map (rs.push { key := rk, val := rv, born := clock }) (clock + 1)), he.2, putMap_sound h hg hb h1 ?_, ?_⟩
        · rw [Array.toList_push]
          exact EsR.append h2 (.cons hkv hv rfl .nil)
        · simp [Instr.mapUpdate, Sem.run_bind, run_underlying ht, MapKept.run_getObj_map h1, run_checkKeyS hk, hfk, hst, World.putO]
      · exact he.elim
    · exact he.elim
  · exact he.elim
theorem delete_sound (h : Sim C ρ σ w) {t elem ty u : TypeId} {key : TypeId} {kk : Nat} (ht : C.P.underlying t = some (.map key elem)) (hk : KeyK C.P key kk) {x k : SX} {rx rk : Value} {tm : T SV}
    (hx : VR C.P C.B (World.shp w) ρ (evX tm x) rx) (hkv : VR C.P C.B (World.shp w) ρ (evX tm k) rk) (he : Al (mDelete kk x k tm σ) hi Q) : Does C ρ σ w (Builtin.delete_ #[t, u] ty #[rx, rk]) Q := by
  obtain ⟨d, hd⟩ := hk.und
  simp only [Al, mDelete] at he
  split at he
  · rename_i hm
    rw [hm] at hx
    obtain rfl := vr_mapNil hx
    split at he
    · exact ⟨_, _, _, undef, w, he.2, Ok.refl h, by simp [Builtin.delete_, Sem.run_bind, run_underlying ht, run_checkKeyS hk, undef], VR.undef⟩
    · exact he.elim
  · rename_i r hm
    rw [hm] at hx
    obtain ⟨b, rfl, hb⟩ := vr_map hx
    split at he
    · rename_i es clock hg
      obtain ⟨rs, h1, h2⟩ := h.map hg hb
      split at he
      · rename_i i v' hks hf
        obtain ⟨e, h3, _, h4, h5, _⟩ := find_sound hk hd hkv 0 h2 hf
        have hfk := run_findKeyS hd h3 w
        have hst := MapKept.run_setObj_map (P := C.P) (.map (rs.eraseIdxIfInBounds i) clock) h1
        refine ⟨_, _, ρ, undef, World.putO w b (.map (rs.eraseIdxIfInBounds i) clock), he.2, putMap_sound h hg hb h1 ?_, ?_, VR.undef⟩
        · rw [Array.toList_eraseIdxIfInBounds]
          exact h2.eraseIdx i
        · simp [Builtin.delete_, Sem.run_bind, run_underlying ht, MapKept.run_getObj_map h1, run_checkKeyS hk, hfk, hst, World.putO, undef]
      · rename_i hks hf
        have h3 := find_sound hk hd hkv 0 h2 hf
        have hfk := run_findKeyS hd h3 w
        have hst := MapKept.run_setObj_map (P := C.P) (.map rs clock) h1
        refine ⟨_, _, ρ, undef, World.putO w b (.map rs clock), he.2, putMap_sound h hg hb h1 h2, ?_, VR.undef⟩
        simp [Builtin.delete_, Sem.run_bind, run_underlying ht, MapKept.run_getObj_map h1, run_checkKeyS hk, hfk, hst, World.putO, undef]
      · exact he.elim
    · exact he.elim
  · exact he.elim
theorem lenMap_sound (h : Sim C ρ σ w) {t k e ty : TypeId} (ht : C.P.underlying t = some (.map k e)) {x : SX} {rx : Value} {tm : T SV} (hx : VR C.P C.B (World.shp w) ρ (evX tm x) rx) (he : Al (mLenMap x tm σ) hi Q) :
    Does C ρ σ w (Builtin.len_ #[t] ty #[rx]) Q := by
  simp only [Al, mLenMap] at he
  split at he
  · rename_i hm
    rw [hm] at hx
    obtain rfl := vr_mapNil hx
    exact ⟨_, _, _, .int .i64 0, w, he.2, Ok.refl h, by simp [Builtin.len_, Sem.run_bind, run_underlying ht, goInt], .int _ _⟩
  · rename_i r hm
    rw [hm] at hx
    obtain ⟨b, rfl, hb⟩ := vr_map hx
    split at he
    · rename_i es clock hg
      obtain ⟨rs, h1, h2⟩ := h.map hg hb
      have hl := h2.length
      refine ⟨_, _, _, .int .i64 rs.size, w, he.2, Ok.refl h, by simp [Builtin.len_, Sem.run_bind, run_underlying ht, MapKept.run_getObj_map h1, goInt], ?_⟩
      rw [hl]
      simpa using VR.int _ _
    · exact he.elim
  · exact he.elim
theorem range_sound (h : Sim C ρ σ w) (hf : Free ρ σ hi) {t k e : TypeId} (ht : C.P.underlying t = some (.map k e)) {x : SX} {rx : Value} {tm : T SV} (hx : VR C.P C.B (World.shp w) ρ (evX tm x) rx) (he : Al (mRange x tm σ) hi Q) :
    Does C ρ σ w (Instr.range t rx) Q := by
  simp only [Al, mRange] at he
  split at he
  · rename_i hm
    rw [hm] at hx
    obtain rfl := vr_mapNil hx
    obtain ⟨h1, h2⟩ := he
    exact ⟨_, _, _, .pointer (some ⟨w.heap.size, 0, none⟩), w.alloc (.mapIter none 0 #[] 0), h2, Ok.new h (hf.new h1) ⟨rfl, none, heap_push_new _ _, rfl⟩, by simp [Instr.range, Sem.run_bind, run_underlying ht], .ptr (ar_new _ _ _)⟩
  · rename_i r hm
    rw [hm] at hx
    obtain ⟨b, rfl, hb⟩ := vr_map hx
    split at he
    · rename_i es clock hg
      obtain ⟨rs, h1, h2⟩ := h.map hg hb
      obtain ⟨h3, h4⟩ := he
      exact ⟨_, _, _, .pointer (some ⟨w.heap.size, 0, none⟩), w.alloc (.mapIter (some b) clock #[] clock), h4, Ok.new h (hf.new h3) ⟨rfl, some b, heap_push_new _ _, b, rfl, upd_ext ρ _ (hf.new h3) _ _ hb⟩,
        by simp [Instr.range, Sem.run_bind, run_underlying ht, MapKept.run_getObj_map h1], .ptr (ar_new _ _ _)⟩
    · exact he.elim
  · exact he.elim
theorem run_getObj_iter {P : Program} {b : Nat} {m : Option Nat} {since : Nat} {seen : Array Nat} {last : Nat} (h : w.heap[b]? = some (.mapIter m since seen last)) : (getObj b).run P w = .ok (.mapIter m since seen last) w := by
  simp [getObj, Sem.run, h]
theorem run_setObj_iter {P : Program} {b : Nat} {m : Option Nat} {since : Nat} {seen : Array Nat} {last : Nat} (h : w.heap[b]? = some (.mapIter m since seen last)) (o : Obj) : (setObj b o).run P w = .ok () (World.putO w b o) := by
  simp [setObj, Sem.run, h, World.putO]
theorem next_sound (h : Sim C ρ σ w) {ty : TypeId} {x : SX} {rx : Value} {tm : T SV} (hx : VR C.P C.B (World.shp w) ρ (evX tm x) rx) (he : Al (mNext x tm σ) hi Q) :
    Does C ρ σ w (Instr.next rx false ty) Q := by
  have over : ∀ {σ'}, Q (.tuple [.bool false], σ') → σ' = σ → (Instr.next rx false ty).run C.P w = .ok (.tuple #[.bool false]) w → Does C ρ σ w (Instr.next rx false ty) Q := by
    intro σ' hq e hr
    subst e
    exact ⟨_, _, _, _, w, hq, Ok.refl h, hr, .tuple (rs := [.bool false]) (.cons (.bool _) .nil)⟩
  simp only [Al, mNext] at he
  split at he
  · rename_i r hm
    rw [hm] at hx
    obtain ⟨ra, rfl, har⟩ := vr_ptr hx
    obtain ⟨hsp, o, ho, hoff⟩ := har
    simp only at ho hoff
    split at he
    · rename_i since seen last hg
      obtain ⟨b', off, h1, _, h2, rm, h3, h4⟩ := h.objs _ _ hg
      rw [ho] at h1
      cases h1
      subst h2
      have hra : ra = ⟨ra.block, 0, none⟩ := by cases ra; simp_all
      subst h4
      refine over he.2 rfl ?_
      rw [hra]
      simp [Instr.next, Sem.run_bind, run_getObj_iter h3]
    · rename_i m since seen last hg
      obtain ⟨b', off, h1, _, h2, rm, h3, h4⟩ := h.objs _ _ hg
      rw [ho] at h1
      cases h1
      subst h2
      have hra : ra = ⟨ra.block, 0, none⟩ := by cases ra; simp_all
      obtain ⟨rb, rfl, hrb⟩ := h4
      split at he
      · rename_i es clock hgm
        obtain ⟨rs, h5, h6⟩ := h.map hgm hrb
        split at he
        · exact he.elim
        · rename_i hc
          rw [Bool.and_eq_true, Bool.and_eq_true] at hc
          obtain ⟨⟨hc1, hc2⟩, hc3⟩ := hc
          obtain rfl := Nat.eq_of_beq_eq_true hc1
          obtain rfl := Nat.eq_of_beq_eq_true hc2
          -- the entries are older than the range
          have hold : rs.toList.all (fun e => decide (e.born < last)) = true := by
            rw [← hc3]
            exact (h6.all (fun k v n e hb => by subst hb; rw [Bool.eq_iff_iff]; simp [Nat.blt_eq])).symm
          have hall : (rs.all fun e => decide (e.born ≥ last)) = true → rs.isEmpty = true := by
            intro ha
            rw [Array.all_eq_true] at ha
            rw [List.all_eq_true] at hold
            cases hz : rs.size with
            | zero => simpa using hz
            | succ n =>
              have h7 := ha 0 (by omega)
              have h8 := hold rs[0] (by simp)
              simp at h7 h8
              omega
          have hguard : (!(seen.toArray.isEmpty) && !rs.isEmpty && rs.all fun e => decide (e.born ≥ last)) = false := by
            cases ha : (rs.all fun e => decide (e.born ≥ last)) with
            | false => simp
            | true => rw [hall ha]; simp
          obtain ⟨left, hdef⟩ : ∃ left, left = rs.filter fun e => !seen.toArray.contains e.born := ⟨_, rfl⟩
          have hleft : EsR C.P C.B (World.shp w) ρ (es.filter fun e => !seen.contains e.2.2) left.toList := by
            simp only [hdef, Array.toList_filter]
            exact h6.filter fun k v n e hb => by subst hb; simp
          have hsub : ∀ e ∈ left.toList, e.born < last := by
            intro e hm
            simp only [hdef, Array.toList_filter, List.mem_filter] at hm
            have := List.all_eq_true.1 hold e hm.1
            simpa using this
          have hof : left.filter (fun e => decide (e.born < last)) = left := by
            apply Array.ext'
            rw [Array.toList_filter, List.filter_eq_self]
            intro e hm
            simpa using hsub e hm
          have hnf : left.filter (fun e => decide (e.born ≥ last)) = #[] := by
            apply Array.ext'
            rw [Array.toList_filter, Array.toList_empty, List.filter_eq_nil_iff]
            intro e hm
            have := hsub e hm
            simp; omega
          have hlen := hleft.length
          simp only [Array.length_toList] at hlen
          have pick : ∀ (w1 : World) (i : Nat) (x : SV × SV × Nat), Ok C ρ σ w ρ σ w1 → w1.heap = w.heap → (es.filter fun e => !seen.contains e.2.2)[i]? = some x → Q (.tuple [.bool true, x.1, x.2.1], σ.put r (some (.mapIter (some m) last (seen ++ [x.2.2]) last))) →
              (∀ e, left[i]? = some e → (setObj ra.block (.mapIter (some rb) last (seen.toArray.push e.born) last)).run C.P w1 = .ok () (World.putO w1 ra.block (.mapIter (some rb) last (seen ++ [x.2.2]).toArray last)) →
                (Instr.next (.pointer (some ra)) false ty).run C.P w = .ok (.tuple #[.bool true, e.key, e.val]) (World.putO w1 ra.block (.mapIter (some rb) last (seen ++ [x.2.2]).toArray last))) → Does C ρ σ w (Instr.next (.pointer (some ra)) false ty) Q := by
            intro w1 i x hok hw1 hx hq hrun
            obtain ⟨e, h7, h8, h9, h10⟩ := hleft.get hx
            have h7' : left[i]? = some e := by simpa using h7
            have h3' : w1.heap[ra.block]? = some (.mapIter (some rb) last seen.toArray last) := by rw [hw1]; exact h3
            have hput : Ok C ρ σ w1 ρ (σ.put r (some (.mapIter (some m) last (seen ++ [x.2.2]) last))) (World.putO w1 ra.block (.mapIter (some rb) last (seen ++ [x.2.2]).toArray last)) := by
              refine Ok.put hok.sim hg ho (fun p hp => ?_) fun hsh => ⟨rfl, some rb, ?_, rb, rfl, hrb⟩
              · simp [World.shape?, h3'] at hp
              · rw [putO_heap _ _ _ _ (Array.getElem?_eq_some_iff.1 h3').1, if_pos rfl]
            have hall2 := hok.trans hput
            refine ⟨_, _, _, .tuple #[.bool true, e.key, e.val], _, hq, hall2, hrun e h7' ?_, .tuple (rs := [.bool true, e.key, e.val]) (.cons (.bool _) (.cons (hall2.vr h8) (.cons (hall2.vr h9) .nil)))⟩
            rw [run_setObj_iter h3', h10]
            simp
          split at he
          · rename_i hnil
            have hl0 : left = #[] := by
              rw [hnil] at hlen
              simpa using hlen.symm
            subst hl0
            refine over he.2 rfl ?_
            rw [hra]
            simp only [Instr.next, Sem.run_bind, run_getObj_iter h3, Result.andThen_ok, MapKept.run_getObj_map h5, hguard, Bool.false_eq_true, if_false, ← hdef]
            simp [Question.forced]
          · rename_i x hone
            have hl1 : left.size = 1 := by rw [← hlen, hone]; rfl
            have hne : left.isEmpty = false := by simp [Array.isEmpty, hl1]
            refine pick w 0 x (Ok.refl h) rfl (by rw [hone]; rfl) he.2 fun e h7 h8 => ?_
            rw [hra] at h8 ⊢
            simp only [Instr.next, Sem.run_bind, run_getObj_iter h3, Result.andThen_ok, MapKept.run_getObj_map h5, hguard, Bool.false_eq_true, if_false, ← hdef, hof, hnf, hne,
              Array.empty_append, Array.append_empty, run_choose_drew, Array.size_map, Question.forced]
            simp only [hl1, Nat.le_refl, decide_true, if_true, Result.andThen_ok, Array.getElem?_map, h7, Option.map_some, Sem.run_bind, h8, Sem.run_pure]
          · rename_i l hl1 hl2
            have hgt : 1 < left.size := by
              rw [← hlen]
              match hm : (es.filter fun e => !seen.contains e.2.2), hl1, hl2 with
              | [], hl1, _ => exact (hl1 hm).elim
              | [x], _, hl2 => exact (hl2 x hm).elim
              | _ :: _ :: _, _, _ => rw [hm]; simp
            have hne : left.isEmpty = false := by unfold Array.isEmpty; rw [decide_eq_false_iff_not]; omega
            have hi : (Question.mapNext left.size).cut (w.tape w.drawn (.mapNext left.size)) < left.size := Nat.mod_lt _ (by omega)
            have hle : (Question.mapNext left.size).cut (w.tape w.drawn (.mapNext left.size)) ≤ (es.filter fun e => !seen.contains e.2.2).length - 1 := by rw [hlen]; omega
            have he' := he _ hle
            simp only at he'
            split at he'
            · rename_i x hx
              refine pick w.drew _ x (Ok.drew h) rfl hx he'.2 fun e h7 h8 => ?_
              have hnf2 : ¬ (left.size ≤ 1) := by omega
              rw [hra] at h8 ⊢
              simp only [Instr.next, Sem.run_bind, run_getObj_iter h3, Result.andThen_ok, MapKept.run_getObj_map h5, hguard, Bool.false_eq_true, if_false, ← hdef, hof, hnf, hne,
                Array.empty_append, Array.append_empty, run_choose_drew, Array.size_map, Question.forced, hnf2, decide_false, Array.getElem?_map, h7, Option.map_some, h8, Sem.run_pure]
            · exact he'.elim
      · exact he.elim
    · exact he.elim
  · exact he.elim
theorem entry_sound (h : Sim C ρ σ w) {x : SX} {rx : Value} {tm : T SV} (hx : VR C.P C.B (World.shp w) ρ (evX tm x) rx) (he : Al (mEntry x tm σ) hi Q) :
    Does C ρ σ w (Instr.entry rx) Q := by
  simp only [Al, mEntry] at he
  split at he
  · rename_i r hm
    rw [hm] at hx
    obtain ⟨ra, rfl, har⟩ := vr_ptr hx
    obtain ⟨hsp, o, ho, hoff⟩ := har
    simp only at ho hoff
    split at he
    · rename_i m since seen stepped hg
      obtain ⟨b', off, h1, _, h2, rm, h3, h4⟩ := h.objs _ _ hg
      rw [ho] at h1
      cases h1
      subst h2
      have hra : ra = ⟨ra.block, 0, none⟩ := by cases ra; simp_all
      obtain ⟨rb, rfl, hrb⟩ := h4
      split at he
      · rename_i es clock stamp hgm hlast
        obtain ⟨rs, h5, h6⟩ := h.map hgm hrb
        split at he
        · rename_i e hc hfd
          obtain rfl := Nat.eq_of_beq_eq_true hc
          obtain ⟨e', h7, h8, h9⟩ := h6.find (q := fun e => e.born == stamp) (fun k v n e hb => by subst hb; rfl) hfd
          refine ⟨_, _, _, .tuple #[e'.key, e'.val], w, he.2, Ok.refl h, ?_, .tuple (rs := [e'.key, e'.val]) (.cons h8 (.cons h9 .nil))⟩
          have hb : seen.toArray.back? = some stamp := by simpa using hlast
          have hfind : rs.find? (fun e => e.born == stamp) = some e' := by rw [← Array.find?_toList]; exact h7
          rw [hra]
          simp [Instr.entry, Sem.run_bind, run_getObj_iter h3, hlast, MapKept.run_getObj_map h5, hfind]
        · exact he.elim
      · exact he.elim
    · exact he.elim
  · exact he.elim
end
end Go.Sh
