import Derived.Test.YthpodlcbikialaaDoorShBytes
set_option linter.unusedVariables false
set_option linter.unusedSimpArgs false
set_option maxRecDepth 100000
namespace Go.Sh.Cb
/-- does a byte stand for itself -/
def plain (x : UInt8) : Bool := decide (33 ≤ x.toNat) && decide (x.toNat ≤ 126) && x != 92 && x != 35
def low : List UInt8 := [48, 49, 50, 51, 52, 53, 54, 55, 56, 57, 97, 98, 99, 100, 101, 102]
def upp : List UInt8 := [48, 49, 50, 51, 52, 53, 54, 55, 56, 57, 65, 66, 67, 68, 69, 70]
def digit (n : Nat) : UInt8 := low.getD n 0
/-- one byte, shown -/
def one (x : UInt8) : List UInt8 := if plain x then [x] else [92, digit (x.toNat / 16), digit (x.toNat % 16)]
def shown (l : List UInt8) : List UInt8 := l.flatMap one
/-- a hexadecimal digit's worth; 16: it is none -/
def worth (c : UInt8) : Nat := ((List.range 16).find? fun i => low.getD i 0 == c || upp.getD i 0 == c).getD 16
def hidden : List UInt8 → Option (List UInt8)
  | [] => some []
  | x :: r => if plain x then (hidden r).map (x :: ·) else if x != 92 then none else match r with
    | a :: b :: t => if worth a < 16 ∧ worth b < 16 then (hidden t).map (UInt8.ofNat (16 * worth a + worth b) :: ·) else none
    | _ => none
theorem digit_worth : ∀ n : Fin 16, worth (digit n.val) = n.val := by decide +kernel
theorem plain_bs : plain 92 = false := by decide
theorem hidden_plain {x : UInt8} {r : List UInt8} (h : plain x = true) : hidden (x :: r) = (hidden r).map (x :: ·) := by
  rw [hidden.eq_def]; simp only; rw [if_pos h]
theorem hidden_bad {x : UInt8} {r : List UInt8} (h : plain x = false) (h2 : x ≠ 92) : hidden (x :: r) = none := by
  rw [hidden.eq_def]; simp only; rw [if_neg (by rw [h]; exact Bool.false_ne_true), if_pos (by simpa using h2)]
theorem hidden_hex {a b : UInt8} {t : List UInt8} : hidden (92 :: a :: b :: t) = if worth a < 16 ∧ worth b < 16 then (hidden t).map (UInt8.ofNat (16 * worth a + worth b) :: ·) else none := by
  rw [hidden.eq_def]; simp only; rw [if_neg (by rw [plain_bs]; exact Bool.false_ne_true), if_neg (by decide)]
theorem hidden_short {r : List UInt8} (h : r.length < 2) : hidden (92 :: r) = none := by
  rcases r with _ | ⟨a, _ | ⟨b, t⟩⟩
  · rfl
  · rfl
  · simp at h; omega
theorem hidden_shown (l : List UInt8) : hidden (shown l) = some l := by
  induction l with
  | nil => rfl
  | cons x r ih =>
    have e : shown (x :: r) = one x ++ shown r := rfl
    rw [e]
    unfold one
    by_cases hx : plain x = true
    · rw [if_pos hx, List.singleton_append, hidden_plain hx, ih]; rfl
    · rw [if_neg hx]
      have hlt := x.toNat_lt
      have h1 := digit_worth ⟨x.toNat / 16, by omega⟩
      have h2 := digit_worth ⟨x.toNat % 16, by omega⟩
      simp only at h1 h2
      show hidden (92 :: digit (x.toNat / 16) :: digit (x.toNat % 16) :: shown r) = _
      rw [hidden_hex]
      simp only [h1, h2]
      rw [if_pos ⟨by omega, by omega⟩, ih, Nat.div_add_mod]
      simp
theorem shown_len (l : List UInt8) : (shown l).length ≤ 3 * l.length := by
  induction l with
  | nil => exact Nat.le_refl _
  | cons x r ih =>
    have e : shown (x :: r) = one x ++ shown r := rfl
    rw [e, List.length_append, List.length_cons]
    have : (one x).length ≤ 3 := by unfold one; split <;> simp
    omega
theorem shown_snoc (l : List UInt8) (x : UInt8) : shown (l ++ [x]) = shown l ++ one x := by simp [shown]
/-- a digit of the Go library's own reading -/
def dig (c : Nat) : Nat := if 48 ≤ c ∧ c ≤ 57 then c - 48 else if 97 ≤ c ||| 32 ∧ c ||| 32 ≤ 122 then (c ||| 32) - 97 + 10 else 255
theorem worth_dig : ∀ c : Fin 256, (dig c.val < 16 → worth (UInt8.ofNat c.val) = dig c.val) ∧ (16 ≤ dig c.val → worth (UInt8.ofNat c.val) = 16) := by decide +kernel
theorem worth_le : ∀ c : Fin 256, worth (UInt8.ofNat c.val) ≤ 16 := by decide +kernel
theorem worth_at : ∀ (c : Fin 256) (i : Fin 16), (low.getD i.val 0 = UInt8.ofNat c.val ∨ upp.getD i.val 0 = UInt8.ofNat c.val) → (∀ j : Fin 16, j < i → low.getD j.val 0 ≠ UInt8.ofNat c.val ∧ upp.getD j.val 0 ≠ UInt8.ofNat c.val) → worth (UInt8.ofNat c.val) = i.val := by decide +kernel
theorem worth_none : ∀ (c : Fin 256), (∀ j : Fin 16, low.getD j.val 0 ≠ UInt8.ofNat c.val ∧ upp.getD j.val 0 ≠ UInt8.ofNat c.val) → worth (UInt8.ofNat c.val) = 16 := by decide +kernel
theorem of_toNat (c : UInt8) : UInt8.ofNat c.toNat = c := by simp
end Go.Sh.Cb
