/-
  The shadow machine, part D: strings as numbers.
-/
import Derived.Test.YthfijonopinghaaGreatDoorShC
import Derived.Laws.Strings
set_option linter.unusedSimpArgs false
set_option linter.unusedVariables false
namespace Go.Sh.Str
theorem of_n (s : ByteArray) : (of s).n = code s.data.toList := rfl
theorem of_len (s : ByteArray) : (of s).len = s.size := by simp [of, ofList]
theorem code_append (a b : List UInt8) : code (a ++ b) = code a + 256 ^ a.length * code b := by
  induction a with
  | nil => simp [code]
  | cons x a ih =>
    simp only [List.cons_append, code, ih, List.length_cons, Nat.pow_succ]
    rw [Nat.mul_add, Nat.add_assoc]
    congr 2
    rw [Nat.mul_comm (256 ^ a.length) 256, Nat.mul_assoc]
theorem code_lt (l : List UInt8) : code l < 256 ^ l.length := by
  induction l with
  | nil => simp [code]
  | cons b l ih =>
    have := b.toNat_lt
    simp only [code, List.length_cons, Nat.pow_succ]
    omega
theorem code_drop (l : List UInt8) (i : Nat) : code (l.drop i) = code l / 256 ^ i := by
  induction i generalizing l with
  | zero => simp
  | succ i ih =>
    cases l with
    | nil => simp [code]
    | cons b l =>
      have := b.toNat_lt
      rw [List.drop_succ_cons, ih, Nat.pow_succ, Nat.mul_comm, ← Nat.div_div_eq_div_mul]
      congr 1
      simp only [code]
      omega
theorem code_take (l : List UInt8) (i : Nat) : code (l.take i) = code l % 256 ^ i := by
  rcases Nat.lt_or_ge i l.length with h | h
  · have h1 := code_append (l.take i) (l.drop i)
    rw [List.take_append_drop] at h1
    have h2 := code_lt (l.take i)
    rw [List.length_take, Nat.min_eq_left (Nat.le_of_lt h)] at h1 h2
    rw [h1, Nat.add_mul_mod_self_left, Nat.mod_eq_of_lt h2]
  · rw [List.take_of_length_le h]
    have h2 := code_lt l
    have h3 : 256 ^ l.length ≤ 256 ^ i := Nat.pow_le_pow_right (by omega) h
    rw [Nat.mod_eq_of_lt (by omega)]
theorem code_inj : ∀ {a b : List UInt8}, a.length = b.length → code a = code b → a = b
  | [], [], _, _ => rfl
  | x :: a, y :: b, hl, h => by
    simp only [code] at h
    have hx := x.toNat_lt
    have hy := y.toNat_lt
    have h1 : x.toNat = y.toNat := by omega
    have h2 : code a = code b := by omega
    rw [UInt8.toNat_inj.1 h1, code_inj (by simpa using hl) h2]
theorem ofList_append (a b : List UInt8) : ofList (a ++ b) = (ofList a).append (ofList b) := by
  simp only [ofList, append, code_append, List.length_append]
theorem of_append (a b : ByteArray) : of (a ++ b) = (of a).append (of b) := by
  have : (a ++ b).data.toList = a.data.toList ++ b.data.toList := by simp [ByteArray.data_append]
  simp only [of, this, ofList_append]
theorem get_ofList (l : List UInt8) (i : Nat) (h : i < l.length) : (ofList l).get i = (l[i]'h).toNat := by
  simp only [get, ofList, ← code_drop]
  rw [List.drop_eq_getElem_cons h]
  simp only [code]
  have := (l[i]'h).toNat_lt
  omega
theorem get_out (l : List UInt8) (i : Nat) (h : l.length ≤ i) : (ofList l).get i = 0 := by
  simp only [get, ofList, ← code_drop]
  rw [List.drop_of_length_le h]
  rfl
theorem data_length (s : ByteArray) : s.data.toList.length = s.size := by rw [Array.length_toList]; rfl
theorem get_of (s : ByteArray) (i : Nat) (h : i < s.size) : (of s).get i = (s[i]'h).toNat := by
  have := get_ofList s.data.toList i (by rw [data_length]; exact h)
  rw [of, this]
  rfl
theorem get_lt (s : Str) (i : Nat) : s.get i < 256 := Nat.mod_lt _ (by omega)
theorem ofList_extract (x : List UInt8) (l h : Nat) (hl : l ≤ h) (hh : h ≤ x.length) : ofList ((x.drop l).take (h - l)) = (ofList x).extract l h := by
  simp only [ofList, extract, code_take, code_drop, List.length_take, List.length_drop]
  congr 1
  omega
theorem extract_toList (s : ByteArray) (l h : Nat) : (s.extract l h).data.toList = (s.data.toList.drop l).take (h - l) := by
  rw [ByteArray.data_extract]
  simp [Array.toList_extract, List.extract_eq_take_drop]
theorem of_extract (s : ByteArray) (l h : Nat) (hl : l ≤ h) (hh : h ≤ s.size) : of (s.extract l h) = (of s).extract l h := by
  rw [of, extract_toList, ofList_extract _ _ _ hl (by rw [data_length]; exact hh)]
  rfl
theorem ofList_inj {a b : List UInt8} (h : ofList a = ofList b) : a = b := by
  have h1 : code a = code b := congrArg Str.n h
  have h2 : a.length = b.length := congrArg Str.len h
  exact code_inj h2 h1
theorem eq_ofList (a b : List UInt8) : (ofList a).eq (ofList b) = (a == b) := by
  by_cases h : a = b
  · subst h; simp [eq]
  · have h2 : (a == b) = false := by simpa using h
    rw [h2]
    simp only [eq, ofList]
    by_cases hl : a.length = b.length
    · have hc : code a ≠ code b := fun hc => h (code_inj hl hc)
      rw [beqF hc]; rfl
    · rw [beqF hl, Bool.and_false]
theorem eq_of (a b : ByteArray) : (of a).eq (of b) = (a.toList == b.toList) := by rw [ByteArray.toList_eq, ByteArray.toList_eq]; exact eq_ofList _ _
theorem bleT {a b : Nat} (h : a ≤ b) : Nat.ble a b = true := by rw [Nat.ble_eq]; exact h
theorem bleF {a b : Nat} (h : ¬ a ≤ b) : Nat.ble a b = false := by
  cases hb : Nat.ble a b
  · rfl
  · exact absurd (by rw [Nat.ble_eq] at hb; exact hb) h
theorem ltF_ofList (a b : List UInt8) (f : Nat) : ∀ (i : Nat), i ≤ b.length → i ≤ a.length → b.length < f + i → ltF (ofList a) (ofList b) f i = Op.bytesLess (a.drop i) (b.drop i) := by
  induction f with
  | zero => intro i h1 _ h2; omega
  | succ f ih =>
    intro i hb ha hf
    unfold ltF
    by_cases h1 : b.length ≤ i
    · rw [show (ofList b).len = b.length from rfl, bleT h1]
      rw [List.drop_of_length_le h1]
      cases a.drop i <;> rfl
    · rw [show (ofList b).len = b.length from rfl, bleF h1]
      have hib : i < b.length := by omega
      by_cases h2 : a.length ≤ i
      · rw [show (ofList a).len = a.length from rfl, bleT h2, List.drop_of_length_le h2, List.drop_eq_getElem_cons hib]
        rfl
      · have hia : i < a.length := by omega
        rw [show (ofList a).len = a.length from rfl, bleF h2]
        rw [get_ofList a i hia, get_ofList b i hib, List.drop_eq_getElem_cons hia, List.drop_eq_getElem_cons hib]
        simp only [Op.bytesLess]
        by_cases h3 : a[i] = b[i]
        · rw [h3, beqT rfl]
          simp only [beq_self_eq_true, Bool.true_and]
          have h4 : decide (b[i] < b[i]) = false := by simp
          rw [h4, Bool.false_or]
          exact ih (i + 1) (by omega) (by omega) (by omega)
        · have h5 : a[i].toNat ≠ b[i].toNat := fun e => h3 (UInt8.toNat_inj.1 e)
          rw [beqF h5]
          have h6 : (a[i] == b[i]) = false := by simpa using h3
          rw [h6, Bool.false_and, Bool.or_false]
          by_cases h7 : a[i].toNat < b[i].toNat
          · simp only [bltT h7]
            symm
            simpa [UInt8.lt_iff_toNat_lt] using h7
          · simp only [bltF h7]
            symm
            simpa [UInt8.lt_iff_toNat_lt] using h7
theorem lt_of (a b : ByteArray) : (of a).lt (of b) = Op.bytesLess a.toList b.toList := by
  rw [ByteArray.toList_eq, ByteArray.toList_eq]
  have := ltF_ofList a.data.toList b.data.toList ((of b).len + 1) 0 (Nat.zero_le _) (Nat.zero_le _) (by simp [of, ofList])
  simpa [lt, of] using this
theorem bytes_ofList (l : List UInt8) (n : Nat) : ∀ (i : Nat), i + n ≤ l.length → (ofList l).bytes i n = ((l.drop i).take n).map (·.toNat) := by
  induction n with
  | zero => intro i _; simp [bytes]
  | succ n ih =>
    intro i h
    have hi : i < l.length := by omega
    simp only [bytes, ih (i + 1) (by omega), get_ofList l i hi]
    rw [List.drop_eq_getElem_cons hi, List.take_succ_cons, List.map_cons]
theorem ofNats_ofList (l : List UInt8) : ofNats (l.map (·.toNat)) = ofList l := by
  induction l with
  | nil => rfl
  | cons b l ih => simp [ofNats, ih, ofList, code]
theorem ofNats_mod (ns : List Nat) : ofNats (ns.map (· % 256)) = ofList (ns.map UInt8.ofNat) := by
  rw [← ofNats_ofList]
  congr 1
  simp [Function.comp_def]
end Go.Sh.Str
