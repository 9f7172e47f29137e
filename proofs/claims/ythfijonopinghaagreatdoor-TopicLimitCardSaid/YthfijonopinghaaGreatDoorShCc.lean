/-
  The shadow machine, part Cc: the sum of bytes as a function that is taken by what was shown of it.
-/
import Derived.Test.YthfijonopinghaaGreatDoorShCb
import Derived.Test.YthfijonopinghaaGreatDoorShY
set_option linter.unusedSimpArgs false
set_option linter.unusedVariables false
namespace Go.Sh
open Go.RowKit
noncomputable section
/-- A number is worked out before one goes on. -/
def frc (v : SV) (k : SV → Option SV) : Option SV := match v with
  | .int kd i => match i with
    | .ofNat m => Nat.rec (motive := fun _ => Option SV) (k (.int kd (.ofNat .zero))) (fun n _ => k (.int kd (.ofNat n.succ))) m
    | .negSucc m => k (.int kd (.negSucc m))
  | v => k v
theorem frc_eq (v : SV) (k : SV → Option SV) : frc v k = k v := by
  unfold frc
  split
  · split
    · rename_i m
      cases m <;> rfl
    · rfl
  · rfl
def nthL (l : List SV) : Nat → Option SV := List.rec (motive := fun _ => Nat → Option SV) (fun _ => none) (fun v _ ih i => Nat.rec (motive := fun _ => Option SV) (some v) (fun j _ => ih j) i) l
theorem nthL_eq : ∀ (l : List SV) (i : Nat), nthL l i = l[i]?
  | [], _ => rfl
  | _ :: _, 0 => rfl
  | _ :: l, i + 1 => nthL_eq l i
def crcRun (rdf : Nat → Option SV) (step : SV → SV → Option SV) (n : Nat) : Nat → SV → Option SV :=
  Nat.rec (motive := fun _ => Nat → SV → Option SV) (fun _ v => some v) (fun _ ih i v => match rdf i with
    | none => none
    | some x => match step v x with
      | none => none
      | some r => frc r (Nat.rec (motive := fun _ => SV → Option SV) (ih .zero) (fun m _ => ih m.succ) i.succ)) n
theorem crcRun_sound {rdf : Nat → Option SV} {tb : List SV} {step : SV → SV → Option SV} (hst : ∀ v x r, step v x = some r → crcStep tb v x = some r) : ∀ (n i : Nat) (v r : SV), crcRun rdf step n i v = some r → ∃ xs : List SV, xs.length = n ∧ crcGo tb xs v = some r ∧ ∀ (j : Nat) (x : SV), xs[j]? = some x → rdf (i + j) = some x ∧ ∃ k m, x = .int k m
  | 0, i, v, r, h => ⟨[], rfl, h, fun _ _ h => by cases h⟩
  | n + 1, i, v, r, h => by
    change (match rdf i with
    | none => none
    | some x => match step v x with
      | none => none
      | some r => frc r (crcRun rdf step n (i + 1))) = some r at h
    cases hx : rdf i with
    | none => rw [hx] at h; cases h
    | some x =>
      rw [hx] at h
      simp only at h
      cases hs : step v x with
      | none => rw [hs] at h; cases h
      | some q =>
        rw [hs] at h
        simp only [frc_eq] at h
        obtain ⟨xs, h1, h2, h3⟩ := crcRun_sound hst n (i + 1) q r h
        have hs := hst _ _ _ hs
        refine ⟨x :: xs, by simp [h1], by show (crcStep tb v x).bind _ = _; rw [hs]; exact h2, ?_⟩
        intro j y hy
        cases j with
        | zero =>
          cases hy
          refine ⟨hx, ?_⟩
          simp only [crcStep, Option.bind_eq_some_iff] at hs
          obtain ⟨_, _, b, hb, i', h5, _⟩ := hs
          unfold cvU8 at hb
          split at hb
          · cases hb
            unfold binS bIntY at h5
            simp only at h5
            split at h5
            · exact ⟨_, _, rfl⟩
            · cases h5
          · cases hb
        | succ j =>
          obtain ⟨h4, h5⟩ := h3 j y hy
          exact ⟨by rw [show i + (j + 1) = i + 1 + j by omega]; exact h4, h5⟩
/-- A table in rows of 16. -/
def ixF (rows : List (List SV)) : SV → Option SV
  | .int _ (.ofNat m) => (List.rec (motive := fun _ => Nat → List SV) (fun _ => []) (fun v _ ih i => Nat.rec (motive := fun _ => List SV) v (fun j _ => ih j) i) rows (Nat.div m 16) |> nthL) (Nat.mod m 16)
  | _ => none
def stepF (rows : List (List SV)) (v x : SV) : Option SV :=
  match binS .shr v (.int .u64 8), cvU8 v with
  | some s, some b => match binS .xor b x with
    | some i => match ixF rows i with
      | some t => binS .xor s t
      | none => none
    | none => none
  | _, _ => none
theorem stepF_sound {tb : List SV} {rows : List (List SV)} (h : ∀ m t, ixF rows (.int .u8 (.ofNat m)) = some t → m < 256 ∧ tb[m]? = some t) {v x r : SV} (hs : stepF rows v x = some r) : crcStep tb v x = some r := by
  unfold stepF at hs
  split at hs
  · rename_i s b h1 h2
    split at hs
    · rename_i i h3
      split at hs
      · rename_i t h4
        simp only [crcStep, h1, h2, h3, Option.bind_some]
        have : ixT tb i = some t := by
          obtain ⟨k, n, rfl⟩ := xor_int h3
          cases n with
          | ofNat m =>
            obtain ⟨h5, h6⟩ := h m t h4
            have h7 : (0 : Int) ≤ Int.ofNat m ∧ Int.ofNat m < (256 : Int) := ⟨Int.natCast_nonneg m, Int.ofNat_lt.2 h5⟩
            simp only [ixT, if_pos h7]
            exact h6
          | negSucc m => cases h4
        rw [this]
        exact hs
      · cases hs
    · cases hs
  · cases hs
def crcSpec (E : Env) (rows : List (List SV)) : List SV → SSt → Ev (SV × SSt) := fun args σ => match args with
  | [.int .u32 s, .slice a n _] => match binS .xor (.int .u32 s) (.int .u32 4294967295), Nat.blt n (2 ^ 63) with
    | some v0, true => match crcRun (fun i => match a with
        | some ad => rd E σ ad i
        | none => none) (stepF rows) n 0 v0 with
      | some v1 => match binS .xor v1 (.int .u32 4294967295) with
        | some r => .ok (r, σ)
        | none => .fail
      | none => .fail
    | _, _ => .fail
  | _ => .fail
theorem crcSpec_stp (E : Env) (rows : List (List SV)) (args : List SV) (σ : SSt) : (crcSpec E rows args σ).box fun r => Stp σ r.2 := by
  unfold crcSpec
  split
  · split
    · split
      · split
        · exact Stp.refl _
        · exact trivial
      · exact trivial
    · exact trivial
  · exact trivial
end
section
theorem slice_base {P : Program} {B : Nat} {C : Cx} {ρ : Ren} {σ : SSt} {w : World} (h : Sim C ρ σ w) {a : Option SA} {n : Nat} {c : SCap} {rs : Value} (hv : VR C.P C.B (World.shp w) ρ (.slice a n c) rs) {E' : Env} (hE : E'.base = baseOf w) {xs : List SV} (hlen : xs.length = n)
    (hx : ∀ (i : Nat) (v : SV), xs[i]? = some v → (match a with
      | some ad => rd C.E σ ad i
      | none => none) = some v ∧ ∃ k m, v = .int k m) :
    ∃ a' c', VR P B (World.shp w) (fun _ => none) (.slice a' n c') rs ∧ ∀ (i : Nat) (v : SV), xs[i]? = some v → ∃ ad, a' = some ad ∧ ∀ σ', rd E' σ' (ad.add (i * 1)) 0 = some v := by
  have key : ∀ {ad : SA} {r : Addr}, a = some ad → AR ρ ad r → ∀ (i : Nat) (v : SV), xs[i]? = some v → ∀ σ', rd E' σ' ((⟨true, r.block, r.off⟩ : SA).add (i * 1)) 0 = some v := by
    intro ad r ha har i v hi σ'
    obtain ⟨h1, k, m, rfl⟩ := hx i v hi
    subst ha
    obtain ⟨rv, h2, h3⟩ := rd_sound h har h1
    cases h3
    show E'.base r.block (r.off + i * 1 + 0) = _
    rw [hE]
    unfold baseOf
    have h4 : (⟨r.block, r.off + i * 1 + 0, none⟩ : Addr) = r.add i := by
      have := har.1
      cases r
      simp only at this
      subst this
      simp [Addr.add]
    rw [h4, h2]
    rfl
  have nil : n = 0 → ∀ (i : Nat) (v : SV), xs[i]? = some v → False := by
    intro h0 i v hi
    have := (List.getElem?_eq_some_iff.1 hi).1
    omega
  cases hv with
  | sliceNil => exact ⟨none, .kn 0, .sliceNil, fun i v hi => (nil rfl i v hi).elim⟩
  | @slice ad r _ c har => exact ⟨some ⟨true, r.block, r.off⟩, .kn c, .slice _ _ ⟨har.1, rfl, rfl⟩, fun i v hi => ⟨_, rfl, key rfl har i v hi⟩⟩
  | @sliceU ad r _ c s har _ _ _ _ _ => exact ⟨some ⟨true, r.block, r.off⟩, .kn c, .slice _ _ ⟨har.1, rfl, rfl⟩, fun i v hi => ⟨_, rfl, key rfl har i v hi⟩⟩
  | sliceZ ad r s => exact ⟨some ⟨true, 0, 0⟩, .kn 0, .sliceZ0 _ _, fun i v hi => (nil rfl i v hi).elim⟩
  | sliceZ0 ad r => exact ⟨some ⟨true, 0, 0⟩, .kn 0, .sliceZ0 _ _, fun i v hi => (nil rfl i v hi).elim⟩
theorem crcSpec_sound {P : Program} {fns : T SBody} {fc ft fv fg e1 e2 e3 : Nat} {zero tb : List SV} {rows : List (List SV)} (hfn : ∀ base spec B, FuncsOk ⟨P, ⟨base, fns, spec⟩, B⟩)
    (htab : ∀ (E : Env) (B : Nat) (args : List SV) (rargs : List Value) (σ : SSt) (ρ : Ren) (w : World) (hi : Nat) (Q : SV × SSt → Prop), Sim ⟨P, E, B⟩ ρ σ w → VRs P B (World.shp w) ρ args rargs → Al (closedSpec (.agg tb) args σ) hi Q → Called ⟨P, E, B⟩ ft rargs w (CallPost ⟨P, E, B⟩ ρ σ w Q))
    (hc : fns.get fc = some (.code 25 [.tmp 4] (crcCode ft fv e1 e2 zero))) (hv : fns.get fv = some (.code 4 [.tmp 2] (valsCode fg e3))) (hg : fns.get fg = some (.code 16 [] valuesCode)) (nc : Nat.beq fc ft = false) (nv : Nat.beq fv ft = false) (ng : Nat.beq fg ft = false)
    (hz : zero.length = 256) (htb : tb.length = 256) (htb1 : tb.all SV.one = true) (hix : ∀ m t, ixF rows (.int .u8 (.ofNat m)) = some t → m < 256 ∧ tb[m]? = some t)
    (E : Env) (B : Nat) (Eb : Env) (hb : Eb.base = E.base) (args : List SV) (rargs : List Value) (σ : SSt) (ρ : Ren) (w : World) (hi : Nat) (Q : SV × SSt → Prop) (h : Sim ⟨P, E, B⟩ ρ σ w) (hargs : VRs P B (World.shp w) ρ args rargs) (hq : Al (crcSpec Eb rows args σ) hi Q) :
    Called ⟨P, E, B⟩ fc rargs w (CallPost ⟨P, E, B⟩ ρ σ w Q) := by
  have hrd : ∀ a i, rd Eb σ a i = rd E σ a i := fun a i => by unfold Go.Sh.rd; rw [hb]
  unfold crcSpec at hq
  split at hq
  · rename_i s a n c
    split at hq
    · rename_i v0 h0 hn
      have hn := of_blt hn
      split at hq
      · rename_i v1 h1
        split at hq
        · rename_i r h2
          obtain ⟨xs, hlen, hgo, hx⟩ := crcRun_sound (fun v x r hs => stepF_sound hix hs) n 0 v0 v1 h1
          cases hargs with
          | @cons _ r1 _ _ hs1 hs2 =>
            cases hs2 with
            | @cons _ r2 _ _ hs3 hs4 =>
              cases hs4
              cases hs1
              obtain ⟨a', c', hva, hba⟩ := slice_base (P := P) (B := w.heap.size) (C := ⟨P, E, B⟩) h hs3 (E' := ⟨baseOf w, fns, specs [(ft, closedSpec (.agg tb))]⟩) rfl hlen (fun i v hi => by
                obtain ⟨h3, h4⟩ := hx i v hi
                rw [Nat.zero_add] at h3
                refine ⟨?_, h4⟩
                cases a with
                | none => cases h3
                | some ad => simp only at h3 ⊢; rw [← hrd]; exact h3)
              have hsp : ∀ f, Nat.beq f ft = false → specs [(ft, closedSpec (.agg tb))] f = none := fun f hf => by unfold specs; rw [hf]; rfl
              have hst : specs [(ft, closedSpec (.agg tb))] ft = some (closedSpec (.agg tb)) := by unfold specs; rw [Nat.beq_refl]
              obtain ⟨⟨v, σ1⟩, N, hN, hr⟩ := crc_wk (E := ⟨baseOf w, fns, specs [(ft, closedSpec (.agg tb))]⟩) (hsp _ nc) (hsp _ nv) (hsp _ ng) hst hc hv hg hz htb htb1 h0 hgo h2 hlen hn hba (cap := c') (σ := σ0) ⟨Nat.le_refl _, fun _ _ => rfl⟩
              simp only at hr
              subst hr
              have hal : Al ((evN ⟨baseOf w, fns, specs [(ft, closedSpec (.agg tb))]⟩ N).2 fc [.int .u32 s, .slice a' n c'] σ0) σ1.next fun r => r.1 = v := by
                have := hN N (Nat.le_refl _)
                simp only at this
                rw [this]
                exact ⟨Nat.le_refl _, rfl⟩
              have hcd := calls_of_shadow (P := P) (E := ⟨baseOf w, fns, specs [(ft, closedSpec (.agg tb))]⟩) (w := w) (hfn _ _ _) (fun f g hf args rargs σ ρ w hi Q _ h hargs _ hq => specs_sound (p := fun f g => ∀ (args : List SV) (rargs : List Value) (σ : SSt) (ρ : Ren) (w' : World) (hi : Nat) (Q : SV × SSt → Prop), Sim ⟨P, ⟨baseOf _, fns, specs [(ft, closedSpec (.agg tb))]⟩, _⟩ ρ σ w' → VRs P _ (World.shp w') ρ args rargs → Al (g args σ) hi Q → Called ⟨P, ⟨baseOf _, fns, specs [(ft, closedSpec (.agg tb))]⟩, _⟩ f rargs w' (CallPost _ ρ σ w' Q))
                  (fun x hx => by
                    rcases List.mem_singleton.1 hx with rfl
                    exact fun args rargs σ ρ w hi Q => htab _ _ args rargs σ ρ w hi Q) f g hf args rargs σ ρ w hi Q h hargs hq)
                (fun f g hf args σ => specs_sound (p := fun _ g => ∀ args σ, (g args σ).box fun r => Stp σ r.2) (fun x hx => by
                    rcases List.mem_singleton.1 hx with rfl
                    exact closedSpec_stp _) f g hf args σ)
                (baseOf_ok w) (args := [.int .u32 s, .slice a' n c']) (rargs := [.int .u32 s, r2]) (.cons (.int _ _) (.cons hva .nil)) hal
              obtain ⟨k, m, rfl⟩ := xor_int h2
              have post : ∀ rv w', (∃ (v' : SV) (σ' : SSt) (ρ' : Ren), v' = .int k m ∧ VR P w.heap.size (World.shp w') ρ' v' rv ∧ Below w.heap.size w w') → CallPost ⟨P, E, B⟩ ρ σ w Q rv w' := by
                rintro rv w' ⟨v', _, ρ', rfl, h3, h4⟩
                exact ⟨.int k m, σ, ρ, hq.2, Ok.below h h4, VR.plain h3 (.int _ _)⟩
              rcases hcd with ⟨h1, h2⟩ | ⟨s, rest, h1, _⟩
              · exact .inl ⟨h1, CallsIn.mono h2 fun e w' ⟨rv, h3, v', σ', ρ', h4, h5, h6⟩ => ⟨rv, h3, post rv w' ⟨v', σ', ρ', h4, h5, h6⟩⟩⟩
              · cases h1
        · exact hq.elim
      · exact hq.elim
    · exact hq.elim
  · exact hq.elim
theorem rowOf_none : ∀ (rows : List (List SV)) (i : Nat), rows.length ≤ i → (List.rec (motive := fun _ => Nat → List SV) (fun _ => []) (fun v _ ih i => Nat.rec (motive := fun _ => List SV) v (fun j _ => ih j) i) rows i : List SV) = []
  | [], _, _ => rfl
  | _ :: _, 0, h => by simp at h
  | _ :: l, i + 1, h => rowOf_none l i (by simpa using h)
theorem ixF_of {rows : List (List SV)} {tb : List SV} (hl : rows.length = 16) (h : (List.range 256).map (fun m => ixF rows (.int .u8 (.ofNat m))) = tb.map some) (m : Nat) (t : SV) (hm : ixF rows (.int .u8 (.ofNat m)) = some t) : m < 256 ∧ tb[m]? = some t := by
  rcases Nat.lt_or_ge m 256 with h1 | h1
  · refine ⟨h1, ?_⟩
    have h2 := congrArg (fun l : List (Option SV) => l[m]?) h
    simp only [List.getElem?_map, List.getElem?_range h1, Option.map_some, hm] at h2
    cases h3 : tb[m]? with
    | none => rw [h3] at h2; cases h2
    | some q => rw [h3] at h2; simpa using h2.symm
  · have h2 : 16 ≤ Nat.div m 16 := (Nat.le_div_iff_mul_le (by omega)).2 (by omega)
    simp only [ixF] at hm
    rw [rowOf_none rows _ (by omega)] at hm
    cases hm
end
end Go.Sh
