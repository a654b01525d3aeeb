/- Plain words and laws on bytes: what a byte is; how far bytes go that are so. -/
import GoSem.Core.World
namespace Go.Proofs.YtfhiemficfibgaaGreatDoor

def isDigit (c : Int) : Bool := decide (48 ≤ c) && decide (c ≤ 57)
def isLetter (c : Int) : Bool := (decide (97 ≤ c) && decide (c ≤ 122)) || (decide (65 ≤ c) && decide (c ≤ 90)) || (c == 95)
def isWordy (c : Int) : Bool := isLetter c || isDigit c
def notLine (c : Int) : Bool := c != 10

def byteAt (s : ByteArray) (i : Nat) : Int := ((s.data.toList.getD i 0).toNat : Int)
theorem size_list (s : ByteArray) : s.data.toList.length = s.size := by simp
theorem byteAt_in (s : ByteArray) (i : Nat) (h : i < s.size) : ((s[i].toNat : Nat) : Int) = byteAt s i := by
  unfold byteAt
  rw [List.getD_eq_getElem?_getD, List.getElem?_eq_getElem (by simpa using h)]
  rfl
theorem byteAt_out (s : ByteArray) (i : Nat) (h : s.size ≤ i) : byteAt s i = 0 := by
  unfold byteAt
  rw [List.getD_eq_getElem?_getD, List.getElem?_eq_none (by simpa using h)]
  rfl
theorem byteAt_range (s : ByteArray) (i : Nat) : 0 ≤ byteAt s i ∧ byteAt s i ≤ 255 := by
  unfold byteAt
  have := (s.data.toList.getD i 0).toNat_lt
  omega

/-- So many bytes from the beginning on are so. -/
def run (p : Int → Bool) (l : List UInt8) : Nat := (l.takeWhile fun c => p (c.toNat : Int)).length
theorem run_cons (p : Int → Bool) (c : UInt8) (l : List UInt8) : run p (c :: l) = if p (c.toNat : Int) = true then run p l + 1 else 0 := by
  unfold run
  rw [List.takeWhile_cons]
  split <;> simp
theorem run_le (p : Int → Bool) (l : List UInt8) : run p l ≤ l.length := by
  induction l with
  | nil => simp [run]
  | cons c l ih =>
    rw [run_cons]
    split
    · simpa using ih
    · simp
theorem run_nil (p : Int → Bool) : run p [] = 0 := rfl
theorem run_within (p : Int → Bool) (l : List UInt8) : ∀ j, j < run p l → p ((l.getD j 0).toNat : Int) = true := by
  induction l with
  | nil => intro j h; simp [run] at h
  | cons c l ih =>
    intro j h
    rw [run_cons] at h
    split at h
    · rename_i hp
      cases j with
      | zero => simpa using hp
      | succ j => simpa using ih j (by omega)
    · omega
theorem run_end (p : Int → Bool) (l : List UInt8) : run p l < l.length → p ((l.getD (run p l) 0).toNat : Int) = false := by
  induction l with
  | nil => intro h; simp [run] at h
  | cons c l ih =>
    intro h
    rw [run_cons] at h ⊢
    split
    · rename_i hp
      rw [if_pos hp] at h
      simpa using ih (by simpa using h)
    · rename_i hp
      simpa using hp

/-- Where the bytes that are so end, from a place on. -/
def runTo (p : Int → Bool) (s : ByteArray) (i : Nat) : Nat := i + run p (s.data.toList.drop i)
theorem runTo_le (p : Int → Bool) (s : ByteArray) (i : Nat) (h : i ≤ s.size) : runTo p s i ≤ s.size := by
  have := run_le p (s.data.toList.drop i)
  simp at this
  unfold runTo
  omega
theorem runTo_ge (p : Int → Bool) (s : ByteArray) (i : Nat) : i ≤ runTo p s i := Nat.le_add_right ..
theorem runTo_in (p : Int → Bool) (s : ByteArray) (i j : Nat) (h : i ≤ j) (hj : j < runTo p s i) : p (byteAt s j) = true := by
  have := run_within p (s.data.toList.drop i) (j - i) (by unfold runTo at hj; omega)
  unfold byteAt
  simp only [List.getD_eq_getElem?_getD, List.getElem?_drop] at this ⊢
  rwa [show i + (j - i) = j from by omega] at this
theorem runTo_end (p : Int → Bool) (s : ByteArray) (i : Nat) (h : i ≤ s.size) (hj : runTo p s i < s.size) : p (byteAt s (runTo p s i)) = false := by
  have := run_end p (s.data.toList.drop i) (by unfold runTo at hj; simp; omega)
  unfold byteAt
  simp only [List.getD_eq_getElem?_getD, List.getElem?_drop] at this ⊢
  exact this
end Go.Proofs.YtfhiemficfibgaaGreatDoor
