/-
  The shadow machine, part F: slices of slices; places; the other operations without memory.
-/
import Derived.Test.YthfijonopinghaaGreatDoorShE
set_option linter.unusedSimpArgs false
set_option linter.unusedVariables false
namespace Go.Sh
section
variable {P : Program} {B : Nat} {sh : Shp} {ρ : Ren}
theorem sliceBounds_known {len cap : Nat} {lo hi mx : Option SV} {m h l : Nat} (h1 : bndO mx cap cap = some m) (h2 : hi = none → mx = none) (h3 : bndO hi m len = some h) (h4 : bndO lo h 0 = some l) {rlo rhi rmx : Option Value} (hlo : VRo P B sh ρ lo rlo) (hhi : VRo P B sh ρ hi rhi) (hmx : VRo P B sh ρ mx rmx) (w : World) :
    (Instr.sliceBounds true len cap rlo rhi rmx).run P w = .ok (l, h, m) w := by
  cases hmx with
  | none =>
    simp [bndO] at h1; subst h1
    cases hhi with
    | none =>
      simp [bndO] at h3; subst h3
      cases hlo with
      | none => simp [bndO] at h4; subst h4; simp [Instr.sliceBounds]
      | some hv => simp [Instr.sliceBounds, (bnd_sound h4 hv .sliceB w).1]
    | some hu =>
      have e1 := (bnd_sound h3 hu .sliceAcap w).1
      cases hlo with
      | none => simp [bndO] at h4; subst h4; simp [Instr.sliceBounds, e1]
      | some hv => simp [Instr.sliceBounds, e1, (bnd_sound h4 hv .sliceB w).1]
  | some hm =>
    have e0 := (bnd_sound h1 hm .slice3Acap w).1
    cases hhi with
    | none => exact absurd (h2 rfl) (by simp)
    | some hu =>
      have e1 := (bnd_sound h3 hu .slice3B w).1
      cases hlo with
      | none => simp [bndO] at h4; subst h4; simp [Instr.sliceBounds, e0, e1]
      | some hv => simp [Instr.sliceBounds, e0, e1, (bnd_sound h4 hv .slice3C w).1]
theorem bnd_le {x : SV} {y m : Nat} (h : bnd x y = some m) : m ≤ y := by
  simp only [bnd] at h
  split at h
  · split at h
    · cases h; omega
    · cases h
  · cases h
theorem bndO_le {x : Option SV} {y d m : Nat} (h : bndO x y d = some m) (hd : d ≤ y) : m ≤ y := by
  cases x with
  | none => simp [bndO] at h; omega
  | some v => exact bnd_le h
theorem bnd_up {x : SV} {y y' m : Nat} (h : bnd x y = some m) (hy : y ≤ y') : bnd x y' = some m := by
  unfold bnd at h ⊢
  split at h
  · rename_i k n
    split at h
    · rename_i hc
      cases h
      rw [if_pos ⟨hc.1, by omega⟩]
    · cases h
  · cases h
theorem run_sizeOf {e : TypeId} {size : Nat} (hs : sizeT P e = some size) (w : World) : (sizeOf e).run P w = .ok size w := by
  simp only [sizeT, Option.map_eq_some_iff] at hs
  obtain ⟨i, hi1, hi2⟩ := hs
  simp [sizeOf, typeInfo, hi1, hi2]
theorem run_slice {t e : TypeId} {size : Nat} (ht : P.underlying t = some (.slice e)) (hs : sizeT P e = some size) {a : Option Addr} {len cap l h m : Nat} {rlo rhi rmx : Option Value} {w : World} (hb : (Instr.sliceBounds true len cap rlo rhi rmx).run P w = .ok (l, h, m) w) :
    (Instr.slice t (.slice a len cap) rlo rhi rmx).run P w = .ok (.slice (if m = l then a else a.map (·.add (l * size))) (h - l) (m - l)) w := by
  simp [Instr.slice, run_underlying ht, hb, run_sizeOf hs]
theorem sliceSl_sound {size : Nat} {x v : SV} {lo hi mx : Option SV} (h : sliceSl size x lo hi mx = some v) {rx : Value} {rlo rhi rmx : Option Value} (hx : VR P B sh ρ x rx) (hlo : VRo P B sh ρ lo rlo) (hhi : VRo P B sh ρ hi rhi) (hmx : VRo P B sh ρ mx rmx) {t e : TypeId} (ht : P.underlying t = some (.slice e)) (hs : sizeT P e = some size) (w : World) :
    ∃ rv, (Instr.slice t rx rlo rhi rmx).run P w = .ok rv w ∧ VR P B sh ρ v rv := by
  unfold sliceSl at h
  split at h
  · rename_i a len cap
    split at h
    · cases h
    · rename_i m hm
      have key : (hi = none → mx = none) ∧ (match bndO hi m len with
        | none => none
        | some h => match bndO lo h 0 with
          | none => none
          | some l => some (SV.slice (if m = l then a else a.map (·.add (l * size))) (h - l) (.kn (m - l)))) = some v := by
        split at h
        · cases h
        · rename_i hne
          refine ⟨fun h0 => ?_, h⟩
          subst h0
          cases mx with
          | none => rfl
          | some q => exact (hne q rfl rfl).elim
      obtain ⟨k1, h⟩ := key
      split at h
      · cases h
      · rename_i hh hhe
        split at h
        · cases h
        · rename_i l hl
          cases h
          have hb := sliceBounds_known hm k1 hhe hl hlo hhi hmx w
          cases hx with
          | slice n c har =>
            rename_i sa r
            refine ⟨_, run_slice ht hs hb, ?_⟩
            by_cases hc : m = l
            · rw [if_pos hc, if_pos hc]; exact .slice _ _ har
            · rw [if_neg hc, if_neg hc]; exact .slice _ _ (har.add _)
          | sliceNil =>
            refine ⟨_, run_slice ht hs hb, ?_⟩
            have h1 := bndO_le hm (Nat.le_refl _)
            have h2 := bndO_le hhe (Nat.zero_le _)
            have h3 : hh - l = 0 := by omega
            have h4 : m - l = 0 := by omega
            rw [h3, h4]
            simp only [Option.map_none, ite_self]
            exact .sliceNil
          | sliceZ0 sa r =>
            refine ⟨_, run_slice ht hs hb, ?_⟩
            have h1 := bndO_le hm (Nat.le_refl _)
            have h2 := bndO_le hhe (Nat.zero_le _)
            have h3 : hh - l = 0 := by omega
            have h4 : m - l = 0 := by omega
            rw [h3, h4]
            by_cases hc : m = l
            · rw [if_pos hc, if_pos hc]; exact .sliceZ0 _ _
            · rw [if_neg hc, if_neg hc]; exact .sliceZ0 _ _
  · rename_i a len sz
    obtain ⟨ra, cap, hrx, hcap⟩ : ∃ ra cap, rx = .slice (some ra) len cap ∧ len ≤ cap := by
      cases hx with
      | sliceU n c s har hc hs hm => exact ⟨_, _, rfl, hc⟩
      | sliceZ => exact ⟨_, _, rfl, Nat.le_refl _⟩
    subst hrx
    split at h
    · rename_i mv
      split at h
      · cases h
      · rename_i m hm
        split at h
        · cases h
        · rename_i hv
          split at h
          · cases h
          · rename_i hh hhe
            split at h
            · cases h
            · rename_i l hl
              cases h
              have hb := sliceBounds_known (hi := some hv) (mx := some mv) (len := len) (cap := cap) (m := m) (bnd_up hm hcap) (fun h => by cases h) hhe hl hlo hhi hmx w
              refine ⟨_, run_slice ht hs hb, ?_⟩
              cases hx with
              | sliceU n c s har hc hs hm' =>
                by_cases hc : m = l
                · rw [if_pos hc, if_pos hc]; exact .slice _ _ har
                · rw [if_neg hc, if_neg hc]; exact .slice _ _ (har.add _)
              | sliceZ =>
                have h1 := bnd_le hm
                have h2 := bnd_le hhe
                have h3 : hh - l = 0 := by omega
                have h4 : m - l = 0 := by omega
                rw [h3, h4]
                by_cases hc : m = l
                · rw [if_pos hc, if_pos hc]; exact .sliceZ0 _ _
                · rw [if_neg hc, if_neg hc]; exact .sliceZ0 _ _
    · split at h
      · cases h
      · rename_i hh hhe
        split at h
        · cases h
        · rename_i l hl
          split at h
          · rename_i hsz
            cases h
            obtain rfl := Nat.eq_of_beq_eq_true hsz
            have h1 := bndO_le hhe (Nat.le_refl _)
            have h2 := bndO_le hl (Nat.zero_le _)
            have hh' : bndO hi cap len = some hh := by
              cases hi with
              | none => exact hhe
              | some q => exact bnd_up hhe hcap
            have hb := sliceBounds_known (mx := none) (len := len) (cap := cap) (m := cap) rfl (fun _ => rfl) hh' hl hlo hhi hmx w
            refine ⟨_, run_slice ht hs hb, ?_⟩
            cases hx with
            | sliceU n c s har hc hs hm' =>
              by_cases hc' : cap = l
              · rw [if_pos hc']
                have h3 : hh - l = 0 := by omega
                have h4 : cap - l = 0 := by omega
                rw [h3, h4]
                exact .sliceZ _ _ _
              · rw [if_neg hc']
                refine .sliceU _ _ _ (har.add _) (by omega) (e := ?_) (m := ?_) ?_ ?_
                rotate_left 2
                · have : (Addr.add ra (l * sz)).block = ra.block := by unfold Addr.add; split <;> rfl
                  rw [this]; exact hs
                · have : (Addr.add ra (l * sz)).off = ra.off + l * sz := by unfold Addr.add; split <;> simp_all
                  rw [this]
                  have h5 : (cap - l) * sz + l * sz = cap * sz := by rw [← Nat.add_mul]; congr 1; omega
                  omega
            | sliceZ =>
              have h3 : hh - l = 0 := by omega
              have h4 : 0 - l = 0 := by omega
              rw [h3, h4]
              by_cases hc' : 0 = l
              · rw [if_pos hc']; exact .sliceZ _ _ _
              · rw [if_neg hc']; exact .sliceZ _ _ _
          · cases h
  · cases h

/-! ### Literals of structs and arrays -/
theorem fold_set (l : List Value) : ∀ (off j0 : Nat) (cells : Array Value), off + j0 + l.length ≤ cells.size →
    ((l.zipIdx j0).foldl (fun cs (p : Value × Nat) => cs.setIfInBounds (off + p.2) p.1) cells).toList = cells.toList.take (off + j0) ++ l ++ cells.toList.drop (off + j0 + l.length) := by
  induction l with
  | nil => intro off j0 cells h; simp
  | cons v l ih =>
    intro off j0 cells h
    simp only [List.length_cons] at h
    simp only [List.zipIdx_cons, List.foldl_cons]
    rw [ih off (j0 + 1) _ (by simp; omega)]
    have hlt : off + j0 < cells.toList.length := by simp; omega
    simp only [Array.toList_setIfInBounds, List.length_cons]
    rw [show off + (j0 + 1) = off + j0 + 1 by omega]
    rw [List.take_succ_eq_append_getElem (by simpa using hlt)]
    rw [List.getElem_set_self, List.take_set_of_le (Nat.le_refl _), List.drop_set_of_lt (by omega)]
    rw [show off + j0 + 1 + l.length = off + j0 + (l.length + 1) by omega]
    simp
theorem fill_step {v : Value} {off size : Nat} {cells : Array Value} (h1 : v.cells.size = size) (h2 : off + size ≤ cells.size) :
    (v.cells.zipIdx.foldl (fun cs (c, j) => cs.setIfInBounds (off + j) c) cells).toList = cells.toList.take off ++ v.cells.toList ++ cells.toList.drop (off + size) := by
  have := fold_set v.cells.toList off 0 cells (by simp; omega)
  simp only [Nat.add_zero] at this
  have h3 : v.cells.toList.length = size := by simpa using h1
  rw [h3] at this
  rw [← this, ← Array.foldl_toList, Array.toList_zipIdx]
theorem fillS_sound {zs : List SV} {rz : Array Value} (hz : VRs P B sh ρ zs rz.toList) (place : Nat → Option (Nat × Nat)) : ∀ {ps : List (Nat × Nat × SV)} {rps : List (Nat × Value)} {cs : List SV},
    ps.length = rps.length → (∀ (i : Nat) (o s : Nat) (v : SV), ps[i]? = some (o, s, v) → ∃ j r, rps[i]? = some (j, r) ∧ place j = some (o, s) ∧ VR P B sh ρ v r) → fillS zs ps = some cs →
    ∃ rc, Instr.fill place rz rps = some rc ∧ VRs P B sh ρ cs rc.toList := by
  intro ps
  induction ps generalizing zs rz with
  | nil =>
    intro rps cs hl _ h
    cases rps with
    | nil => simp [fillS] at h; subst h; exact ⟨rz, rfl, hz⟩
    | cons => simp at hl
  | cons p ps ih =>
    intro rps cs hl hp h
    obtain ⟨o, s, v⟩ := p
    cases rps with
    | nil => simp at hl
    | cons q rps =>
      obtain ⟨j, r, hq, hpl, hv⟩ := hp 0 o s v rfl
      simp at hq
      subst hq
      simp only [fillS] at h
      split at h
      · rename_i hc
        have hvc := hv.cells
        have h1 : r.cells.size = s := by have := hvc.length; simp at this; omega
        have h2 : o + s ≤ rz.size := by have := hz.length; simp at this; omega
        have hz' : VRs P B sh ρ (zs.take o ++ v.cells ++ zs.drop (o + s)) (r.cells.zipIdx.foldl (fun cs (c, j) => cs.setIfInBounds (o + j) c) rz).toList := by
          rw [fill_step h1 h2]
          exact ((hz.take o).append hvc).append (hz.drop (o + s))
        obtain ⟨rc, hrc, hcs⟩ := ih hz' (rps := rps) (cs := cs) (by simpa using hl) (fun i o s v hi => by simpa using hp (i + 1) o s v (by simpa using hi)) h
        refine ⟨rc, ?_, hcs⟩
        simp only [Instr.fill, hpl]
        rw [if_neg (by rw [h1]; simp; omega)]
        exact hrc
      · cases h
theorem zeroT_sound {t : TypeId} {z : SV} (h : zeroT P t = some z) : ∃ v, (∀ w, (zeroValue t).run P w = .ok v w) ∧ VR P B sh ρ z v := by
  simp only [zeroT, Option.bind_eq_some_iff] at h
  obtain ⟨v, ⟨i, hi, hz⟩, hv⟩ := h
  exact ⟨v, fun w => by simp [zeroValue, typeInfo, hi, hz], cval_sound hv⟩
end
end Go.Sh
