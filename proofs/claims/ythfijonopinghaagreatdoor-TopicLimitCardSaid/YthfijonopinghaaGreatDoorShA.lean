/-
  The shadow machine, part A: data. Tries, strings as numbers, values, the heap. Plain Lean; no program in sight.
-/
import GoSem.Step
set_option linter.unusedSimpArgs false
set_option linter.unusedVariables false
namespace Go.Sh
noncomputable section

/-! ### Tries over Nat -/
inductive T (α : Type) where
  | e : T α
  | nd (l : T α) (v : Option α) (r : T α) : T α

theorem beqF {a b : Nat} (h : a ≠ b) : Nat.beq a b = false := by
  cases hb : Nat.beq a b
  · rfl
  · exact absurd (Nat.eq_of_beq_eq_true hb) h
theorem beqT {a b : Nat} (h : a = b) : Nat.beq a b = true := by subst h; exact Nat.beq_refl a

/-! ### The way to a place -/
inductive Pth where
  | z : Pth
  | l (p : Pth) : Pth
  | r (p : Pth) : Pth
  deriving DecidableEq
/-- (by the recursors themselves: the kernel reckons with them) -/
def pthF (f : Nat) : Nat → Pth :=
  Nat.rec (motive := fun _ => Nat → Pth) (fun _ => .z)
    (fun _ s k => Bool.rec (Bool.rec (.r (s (Nat.pred (Nat.div k 2)))) (.l (s (Nat.div k 2))) (Nat.beq (Nat.mod k 2) 1)) .z (Nat.beq k 0)) f
def pth (k : Nat) : Pth := pthF k k
def Pth.un : Pth → Nat
  | .z => 0
  | .l p => 2 * p.un + 1
  | .r p => 2 * p.un + 2
theorem un_pthF (f : Nat) : ∀ k, k ≤ f → (pthF f k).un = k := by
  induction f with
  | zero => intro k h; obtain rfl : k = 0 := by omega
            rfl
  | succ f ih =>
    intro k h
    have hs : pthF (f + 1) k = Bool.rec (Bool.rec (.r (pthF f (Nat.pred (k / 2)))) (.l (pthF f (k / 2))) (Nat.beq (k % 2) 1)) .z (Nat.beq k 0) := rfl
    rw [hs]
    by_cases hk : k = 0
    · subst hk; rfl
    · rw [beqF hk]
      by_cases ho : k % 2 = 1
      · rw [beqT ho]
        show 2 * (pthF f (k / 2)).un + 1 = k
        rw [ih _ (by omega)]
        omega
      · rw [beqF ho]
        show 2 * (pthF f (Nat.pred (k / 2))).un + 2 = k
        rw [ih _ (by rw [Nat.pred_eq_sub_one]; omega), Nat.pred_eq_sub_one]
        omega
theorem pth_inj {j k : Nat} (h : pth j = pth k) : j = k := by
  have h1 := un_pthF j j (Nat.le_refl _)
  have h2 := un_pthF k k (Nat.le_refl _)
  unfold pth at h
  rw [h] at h1
  omega
namespace T
variable {α : Type}
def getP (t : T α) : Pth → Option α :=
  T.rec (motive := fun _ => Pth → Option α) (fun _ => none)
    (fun _ v _ gl gr p => Pth.rec (motive := fun _ => Option α) v (fun q _ => gl q) (fun q _ => gr q) p) t
def get (t : T α) (k : Nat) : Option α := t.getP (pth k)
/-- A trie of one. -/
def single (v : Option α) (p : Pth) : T α :=
  Pth.rec (motive := fun _ => T α) (.nd .e v .e) (fun _ s => .nd s none .e) (fun _ s => .nd .e none s) p
def setP (t : T α) (p : Pth) (v : Option α) : T α :=
  T.rec (motive := fun _ => Pth → T α) (fun p => single v p)
    (fun l w r sl sr p => Pth.rec (motive := fun _ => T α) (.nd l v r) (fun q _ => .nd (sl q) w r) (fun q _ => .nd l w (sr q)) p) t p
def set (t : T α) (k : Nat) (v : Option α) : T α := t.setP (pth k) v
theorem getP_single (v : Option α) : ∀ (p q : Pth), (single v p).getP q = if q = p then v else none
  | .z, .z => by simp; rfl
  | .z, .l q => by rw [if_neg (by simp)]; rfl
  | .z, .r q => by rw [if_neg (by simp)]; rfl
  | .l p, .z => by rw [if_neg (by simp)]; rfl
  | .l p, .l q => by
    have h := getP_single v p q
    have e : (single v (.l p)).getP (.l q) = (single v p).getP q := rfl
    rw [e, h]; simp
  | .l p, .r q => by rw [if_neg (by simp)]; rfl
  | .r p, .z => by rw [if_neg (by simp)]; rfl
  | .r p, .l q => by rw [if_neg (by simp)]; rfl
  | .r p, .r q => by
    have h := getP_single v p q
    have e : (single v (.r p)).getP (.r q) = (single v p).getP q := rfl
    rw [e, h]; simp
theorem getP_setP (t : T α) : ∀ (p : Pth) (v : Option α) (q : Pth), (t.setP p v).getP q = if q = p then v else t.getP q := by
  induction t with
  | e => intro p v q; exact getP_single v p q
  | nd l w r ihl ihr =>
    intro p v q
    cases p with
    | z => cases q with
      | z => rw [if_pos rfl]; rfl
      | l q => rw [if_neg (by simp)]; rfl
      | r q => rw [if_neg (by simp)]; rfl
    | l p => cases q with
      | z => rw [if_neg (by simp)]; rfl
      | l q =>
        have e : ((T.nd l w r).setP (.l p) v).getP (.l q) = (l.setP p v).getP q := rfl
        rw [e, ihl]
        have e2 : (T.nd l w r).getP (.l q) = l.getP q := rfl
        rw [e2]; simp
      | r q => rw [if_neg (by simp)]; rfl
    | r p => cases q with
      | z => rw [if_neg (by simp)]; rfl
      | l q => rw [if_neg (by simp)]; rfl
      | r q =>
        have e : ((T.nd l w r).setP (.r p) v).getP (.r q) = (r.setP p v).getP q := rfl
        rw [e, ihr]
        have e2 : (T.nd l w r).getP (.r q) = r.getP q := rfl
        rw [e2]; simp
theorem get_e (k : Nat) : (T.e : T α).get k = none := rfl
theorem get_set (t : T α) (k : Nat) (v : Option α) (j : Nat) : (t.set k v).get j = if j = k then v else t.get j := by
  unfold get set
  rw [getP_setP]
  by_cases h : j = k
  · subst h; rw [if_pos rfl, if_pos rfl]
  · rw [if_neg h, if_neg (fun e => h (pth_inj e))]
theorem get_set_same (t : T α) (k : Nat) (v : Option α) : (t.set k v).get k = v := by rw [get_set, if_pos rfl]
theorem get_set_ne (t : T α) {k j : Nat} (v : Option α) (h : j ≠ k) : (t.set k v).get j = t.get j := by rw [get_set, if_neg h]
/-- A list laid from a place on. -/
def putList (t : T α) (k : Nat) : List α → T α
  | [] => t
  | x :: xs => putList (t.set k (some x)) (k + 1) xs
theorem get_putList (xs : List α) : ∀ (t : T α) (k j : Nat), (t.putList k xs).get j = if k ≤ j ∧ j < k + xs.length then xs[j - k]? else t.get j := by
  induction xs with
  | nil => intro t k j; simp [putList]; intro h1 h2; omega
  | cons x xs ih =>
    intro t k j
    simp only [putList, ih, List.length_cons]
    by_cases h : j = k
    · subst h
      rw [if_neg (by omega), if_pos (by omega), get_set_same]
      simp
    · by_cases h2 : k + 1 ≤ j ∧ j < k + 1 + xs.length
      · rw [if_pos h2, if_pos (by omega)]
        have : j - k = (j - (k + 1)) + 1 := by omega
        rw [this]; simp
      · rw [if_neg h2, if_neg (by omega), get_set_ne _ _ h]
/-- So many from a place on; none: one of them is not there. -/
def getList (t : T α) (k : Nat) : Nat → Option (List α)
  | 0 => some []
  | n + 1 => match t.get k with
    | none => none
    | some x => match getList t (k + 1) n with
      | none => none
      | some xs => some (x :: xs)
theorem getList_spec (t : T α) (n : Nat) : ∀ (k : Nat) (xs : List α), t.getList k n = some xs → xs.length = n ∧ ∀ i, i < n → t.get (k + i) = xs[i]? := by
  induction n with
  | zero => intro k xs h; simp [getList] at h; subst h; simp
  | succ n ih =>
    intro k xs h
    unfold getList at h
    split at h
    · cases h
    · rename_i x hx
      split at h
      · cases h
      · rename_i ys hys
        cases h
        obtain ⟨h1, h2⟩ := ih (k + 1) ys hys
        refine ⟨by simp [h1], fun i hi => ?_⟩
        cases i with
        | zero => simpa using hx
        | succ i =>
          have := h2 i (by omega)
          rw [show k + 1 + i = k + (i + 1) by omega] at this
          simpa using this
end T

/-! ### Strings as numbers: the first byte is the lowest -/
structure Str where
  n : Nat
  len : Nat
  deriving DecidableEq

namespace Str
def code : List UInt8 → Nat
  | [] => 0
  | b :: l => b.toNat + 256 * code l
def ofList (l : List UInt8) : Str := ⟨code l, l.length⟩
def of (s : ByteArray) : Str := ofList s.data.toList
def get (s : Str) (i : Nat) : Nat := s.n / 256 ^ i % 256
def append (a b : Str) : Str := ⟨a.n + 256 ^ a.len * b.n, a.len + b.len⟩
def extract (s : Str) (l h : Nat) : Str := ⟨s.n / 256 ^ l % 256 ^ (h - l), h - l⟩
def eq (a b : Str) : Bool := Nat.beq a.n b.n && Nat.beq a.len b.len
/-- Are the bytes from i on, so many at most, of a ahead of b's? -/
def ltF (a b : Str) : Nat → Nat → Bool
  | 0, _ => false
  | f + 1, i =>
    match Nat.ble b.len i with
    | true => false
    | false =>
      match Nat.ble a.len i with
      | true => true
      | false =>
        match Nat.beq (a.get i) (b.get i) with
        | true => ltF a b f (i + 1)
        | false => Nat.blt (a.get i) (b.get i)
def lt (a b : Str) : Bool := ltF a b (b.len + 1) 0
/-- The place of a byte from i on, in so many steps. -/
def findF (s : Str) (c : Nat) : Nat → Nat → Option Nat
  | 0, _ => none
  | f + 1, i => match Nat.beq (s.get i) c with
    | true => some i
    | false => findF s c f (i + 1)
def find (s : Str) (c : Nat) : Option Nat := findF s c s.len 0
def bytes (s : Str) : Nat → Nat → List Nat
  | _, 0 => []
  | i, n + 1 => s.get i :: bytes s (i + 1) n
def ofNats : List Nat → Str
  | [] => ⟨0, 0⟩
  | b :: l => ⟨b + 256 * (ofNats l).n, (ofNats l).len + 1⟩
end Str

/-! ### Values -/
/-- An address: in the memory that was there (base), or in what was made since. -/
structure SA where
  base : Bool
  blk : Nat
  off : Nat
  deriving DecidableEq

/-- How much room a slice has: just so much; or what its array happened to be given: its elements have so many cells. -/
inductive SCap where
  | kn (c : Nat)
  | un (size : Nat)
  deriving DecidableEq

inductive SV where
  | bool (b : Bool)
  | int (k : IntKind) (n : Int)
  | str (s : Str)
  | ptr (a : Option SA)
  | slice (a : Option SA) (len : Nat) (cap : SCap)
  | map (r : Option Nat)
  | func (f : FuncId) (captured : List SV)
  | yield (l : Nat)
  | nilFunc
  | iface (t : TypeId) (v : SV)
  | nilIface
  | agg (cs : List SV)
  | tuple (vs : List SV)

instance : Inhabited SV := ⟨.nilIface⟩
def SV.cells : SV → List SV
  | .agg cs => cs
  | v => [v]
/-- May it lie in one cell? -/
def SV.one : SV → Bool
  | .agg _ | .tuple _ => false
  | _ => true

/-! ### Numbers, quickly: the kernel reckons with these -/
def hiK : IntKind → Nat
  | .i8 => 128 | .i16 => 32768 | .i32 => 2147483648 | .i64 => 9223372036854775808
  | .u8 => 256 | .u16 => 65536 | .u32 => 4294967296 | .u64 => 18446744073709551616
def loK : IntKind → Nat
  | .i8 => 128 | .i16 => 32768 | .i32 => 2147483648 | .i64 => 9223372036854775808
  | _ => 0
def unsK : IntKind → Bool
  | .i8 | .i16 | .i32 | .i64 => false
  | _ => true
def wrapF (k : IntKind) (n : Int) : Int :=
  match n with
  | .ofNat m => match Nat.blt m (hiK k) with
    | true => .ofNat m
    | false => match unsK k with
      | true => .ofNat (m % hiK k)
      | false => k.wrap (.ofNat m)
  | .negSucc m => match Nat.blt m (loK k) with
    | true => .negSucc m
    | false => k.wrap (.negSucc m)
theorem bltT {a b : Nat} (h : a < b) : Nat.blt a b = true := by
  have h' : Nat.ble (a + 1) b = true := by rw [Nat.ble_eq]; exact h
  exact h'
theorem bltF {a b : Nat} (h : ¬ a < b) : Nat.blt a b = false := by
  cases hb : Nat.blt a b
  · rfl
  · exact absurd (by have h' : Nat.ble (a + 1) b = true := hb
                     rw [Nat.ble_eq] at h'; exact h') h
theorem of_blt {a b : Nat} (h : Nat.blt a b = true) : a < b := by
  have h' : Nat.ble (a + 1) b = true := h
  rw [Nat.ble_eq] at h'; exact h'
theorem not_of_blt {a b : Nat} (h : Nat.blt a b = false) : ¬ a < b := fun h' => by rw [bltT h'] at h; cases h
theorem wrap_in (k : IntKind) (n : Int) (h0 : -(loK k : Int) ≤ n) (h1 : n < (hiK k : Int)) : k.wrap n = n := by
  cases k <;> simp only [IntKind.wrap, IntKind.bits, IntKind.signed, hiK, loK, Bool.true_and, Bool.false_and, ite_false] at * <;> (try split) <;> simp at * <;> omega
theorem wrapF_eq (k : IntKind) (n : Int) : wrapF k n = k.wrap n := by
  cases n with
  | ofNat m =>
    simp only [wrapF]
    cases hb : Nat.blt m (hiK k) with
    | true =>
      have := of_blt hb
      exact (wrap_in k _ (by simp <;> omega) (by simp <;> omega)).symm
    | false =>
      cases hu : unsK k with
      | false => rfl
      | true =>
        cases k <;> simp [unsK] at hu <;> simp [IntKind.wrap, IntKind.bits, IntKind.signed, hiK]
  | negSucc m =>
    simp only [wrapF]
    cases hb : Nat.blt m (loK k) with
    | true =>
      have := of_blt hb
      exact (wrap_in k (.negSucc m) (by rw [Int.negSucc_eq]; omega) (by rw [Int.negSucc_eq]; omega)).symm
    | false => rfl
def ltI : Int → Int → Bool
  | .ofNat a, .ofNat b => Nat.blt a b
  | .negSucc _, .ofNat _ => true
  | .ofNat _, .negSucc _ => false
  | .negSucc a, .negSucc b => Nat.blt b a
theorem ltI_eq (x y : Int) : ltI x y = decide (x < y) := by
  cases x with
  | ofNat a => cases y with
    | ofNat b =>
      simp only [ltI]
      by_cases h : a < b
      · rw [bltT h]; simp; exact h
      · rw [bltF h]; simp; omega
    | negSucc b => simp only [ltI]; symm; simp; omega
  | negSucc a => cases y with
    | ofNat b => simp only [ltI]; symm; simp; omega
    | negSucc b =>
      simp only [ltI]
      by_cases h : b < a
      · rw [bltT h]; symm; simp; omega
      · rw [bltF h]; symm; simp; omega
def eqI : Int → Int → Bool
  | .ofNat a, .ofNat b => Nat.beq a b
  | .negSucc a, .negSucc b => Nat.beq a b
  | _, _ => false
theorem eqI_eq (x y : Int) : eqI x y = (x == y) := by
  cases x with
  | ofNat a => cases y with
    | ofNat b =>
      simp only [eqI]
      by_cases h : a = b
      · rw [beqT h]; simp [h]
      · rw [beqF h]; symm; simp; omega
    | negSucc b => rfl
  | negSucc a => cases y with
    | ofNat b => rfl
    | negSucc b =>
      simp only [eqI]
      by_cases h : a = b
      · rw [beqT h]; simp [h]
      · rw [beqF h]; symm; simpa using h
/-- Bit by bit, where both are numbers of the kind that are not below 0. -/
def bitsF (k : IntKind) (f : Nat → Nat → Nat) (g : Int → Int → Int) : Int → Int → Int
  | .ofNat a, .ofNat b => match Nat.blt a (hiK k) && Nat.blt b (hiK k) with
    | true => .ofNat (f a b)
    | false => g (.ofNat a) (.ofNat b)
  | x, y => g x y
theorem hiK_le (k : IntKind) : hiK k ≤ 2 ^ k.bits := by cases k <;> decide
theorem hiK_pow (k : IntKind) : ∃ j, hiK k = 2 ^ j := by
  cases k
  · exact ⟨7, rfl⟩
  · exact ⟨15, rfl⟩
  · exact ⟨31, rfl⟩
  · exact ⟨63, rfl⟩
  · exact ⟨8, rfl⟩
  · exact ⟨16, rfl⟩
  · exact ⟨32, rfl⟩
  · exact ⟨64, rfl⟩
theorem bv_ofNat (k : IntKind) (a : Nat) (h : a < hiK k) : (BitVec.ofInt k.bits (Int.ofNat a)).toNat = a := by
  have := hiK_le k
  simp only [BitVec.toNat_ofInt]
  have h2 : ((2 ^ k.bits : Nat) : Int) = (2 : Int) ^ k.bits := by norm_cast
  have : (Int.ofNat a % ((2 ^ k.bits : Nat) : Int)) = Int.ofNat a := Int.emod_eq_of_lt (by simp) (by simp; omega)
  first | (rw [this]; rfl) | (simp at this ⊢; omega)
theorem bits_wrap (k : IntKind) (r : Nat) (h : r < hiK k) : k.wrap (r : Int) = Int.ofNat r := wrap_in k _ (by omega) (by omega)
theorem bitsF_and (k : IntKind) (x y : Int) : bitsF k Nat.land (fun x y => k.wrap (BitVec.ofInt k.bits x &&& BitVec.ofInt k.bits y).toNat) x y = k.wrap (BitVec.ofInt k.bits x &&& BitVec.ofInt k.bits y).toNat := by
  unfold bitsF
  split
  · rename_i a b
    split
    · rename_i h
      rw [Bool.and_eq_true] at h
      have h1 := of_blt h.1
      have h2 := of_blt h.2
      rw [BitVec.toNat_and, bv_ofNat k a h1, bv_ofNat k b h2]
      exact (bits_wrap k _ (Nat.lt_of_le_of_lt Nat.and_le_left h1)).symm
    · rfl
  · rfl
theorem bitsF_or (k : IntKind) (x y : Int) : bitsF k Nat.lor (fun x y => k.wrap (BitVec.ofInt k.bits x ||| BitVec.ofInt k.bits y).toNat) x y = k.wrap (BitVec.ofInt k.bits x ||| BitVec.ofInt k.bits y).toNat := by
  unfold bitsF
  split
  · rename_i a b
    split
    · rename_i h
      rw [Bool.and_eq_true] at h
      have h1 := of_blt h.1
      have h2 := of_blt h.2
      rw [BitVec.toNat_or, bv_ofNat k a h1, bv_ofNat k b h2]
      obtain ⟨j, hj⟩ := hiK_pow k
      rw [hj] at h1 h2
      exact (bits_wrap k _ (by rw [hj]; exact Nat.or_lt_two_pow h1 h2)).symm
    · rfl
  · rfl
theorem bitsF_xor (k : IntKind) (x y : Int) : bitsF k Nat.xor (fun x y => k.wrap (BitVec.ofInt k.bits x ^^^ BitVec.ofInt k.bits y).toNat) x y = k.wrap (BitVec.ofInt k.bits x ^^^ BitVec.ofInt k.bits y).toNat := by
  unfold bitsF
  split
  · rename_i a b
    split
    · rename_i h
      rw [Bool.and_eq_true] at h
      have h1 := of_blt h.1
      have h2 := of_blt h.2
      rw [BitVec.toNat_xor, bv_ofNat k a h1, bv_ofNat k b h2]
      obtain ⟨j, hj⟩ := hiK_pow k
      rw [hj] at h1 h2
      exact (bits_wrap k _ (by rw [hj]; exact Nat.xor_lt_two_pow h1 h2)).symm
    · rfl
  · rfl
def shlF (k : IntKind) (x : Int) (n : Nat) : Int :=
  match x with
  | .ofNat a => wrapF k (.ofNat (Nat.shiftLeft a n))
  | x => k.wrap (x * 2 ^ n)
theorem shlF_eq (k : IntKind) (x : Int) (n : Nat) : shlF k x n = k.wrap (x * 2 ^ n) := by
  unfold shlF
  split
  · rename_i a
    rw [wrapF_eq]
    congr 1
    have : Nat.shiftLeft a n = a * 2 ^ n := Nat.shiftLeft_eq a n
    rw [this]
    simp
  · rfl
def shrF (x : Int) (n : Nat) : Int :=
  match x with
  | .ofNat a => .ofNat (Nat.shiftRight a n)
  | x => x.fdiv (2 ^ n)
theorem shrF_eq (x : Int) (n : Nat) : shrF x n = x.fdiv (2 ^ n) := by
  unfold shrF
  split
  · rename_i a
    have : Nat.shiftRight a n = a / 2 ^ n := Nat.shiftRight_eq_div_pow a n
    rw [this, Int.fdiv_eq_ediv_of_nonneg _ (by exact Int.le_of_lt (Int.pow_pos (by decide)))]
    simp
  · rfl
def bitsK : IntKind → Nat
  | .i8 | .u8 => 8 | .i16 | .u16 => 16 | .i32 | .u32 => 32 | .i64 | .u64 => 64
theorem bitsK_eq (k : IntKind) : bitsK k = k.bits := by cases k <;> rfl

end
end Go.Sh
