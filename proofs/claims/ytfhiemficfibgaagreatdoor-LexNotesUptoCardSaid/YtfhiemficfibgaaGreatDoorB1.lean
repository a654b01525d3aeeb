/- The reader as a plain function on bytes: what stands at the beginning of a rest, and how far it goes. -/
import Derived.Test.YtfhiemficfibgaaGreatDoorB0
import Derived.Lib.Case
import Derived.Lib.AtoiAll
import Derived.Lib.Repeat
import Derived.Lib.IndexBytes
import Derived.Lib.Index
import Derived.Lib.Fields
import Derived.Lib.ValidU
namespace Go.Proofs.YtfhiemficfibgaaGreatDoor

abbrev Bytes := List UInt8

/-- The byte so many behind the first one; 0 behind the end. -/
def lk (r : Bytes) (k : Nat) : Int := ((r.getD k 0).toNat : Int)
theorem lk_range (r : Bytes) (k : Nat) : 0 ≤ lk r k ∧ lk r k ≤ 255 := by
  unfold lk
  have := (r.getD k 0).toNat_lt
  omega
theorem lk_drop (r : Bytes) (i k : Nat) : lk (r.drop i) k = lk r (i + k) := by simp [lk, List.getD_eq_getElem?_getD]
theorem lk_byteAt (s : ByteArray) (i k : Nat) : lk (s.data.toList.drop i) k = byteAt s (i + k) := by rw [lk_drop]; rfl
theorem lk_out (r : Bytes) (k : Nat) (h : r.length ≤ k) : lk r k = 0 := by simp [lk, List.getD_eq_getElem?_getD, List.getElem?_eq_none h]
theorem lk_cons0 (c : UInt8) (r : Bytes) : lk (c :: r) 0 = (c.toNat : Int) := rfl
theorem lk_lt (r : Bytes) (k : Nat) (h : lk r k ≠ 0) : k < r.length := by
  rcases Nat.lt_or_ge k r.length with h' | h'
  · exact h'
  · exact absurd (lk_out r k h') h

/-- An error is noted: the first one stays; 0 is none. -/
def failE (err e : Int) : Int := if err = 0 then e else err
def failB (err bad p : Int) : Int := if err = 0 then p else bad

/-- The words. -/
def wordsText : Bytes := [97, 108, 108, 32, 97, 110, 100, 32, 97, 115, 32, 97, 118, 103, 32, 98, 101, 116, 119, 101, 101, 110, 32, 98, 121, 32, 99, 97, 115, 101, 32, 99, 111, 110, 116, 101, 120, 116, 32, 99, 111, 117, 110, 116, 32, 99, 114, 101, 97, 116, 101, 32, 100, 101, 108, 101, 116, 101, 32, 100, 101, 115, 99, 32, 100, 105, 115, 116, 105, 110, 99, 116, 32, 101, 108, 115, 101, 32, 101, 110, 100, 32, 101, 118, 101, 110, 116, 115, 32, 101, 118, 101, 114, 121, 32, 102, 97, 108, 115, 101, 32, 102, 105, 114, 115, 116, 32, 102, 114, 111, 109, 32, 103, 114, 111, 117, 112, 32, 104, 97, 118, 105, 110, 103, 32, 105, 110, 32, 105, 110, 115, 101, 114, 116, 32, 105, 110, 116, 111, 32, 105, 114, 115, 116, 114, 101, 97, 109, 32, 105, 115, 32, 105, 115, 116, 114, 101, 97, 109, 32, 108, 97, 115, 116, 32, 109, 97, 116, 99, 104, 101, 100, 32, 109, 97, 120, 32, 109, 101, 114, 103, 101, 32, 109, 105, 110, 32, 109, 115, 32, 110, 111, 116, 32, 110, 117, 108, 108, 32, 111, 110, 32, 111, 114, 32, 111, 114, 100, 101, 114, 32, 111, 117, 116, 112, 117, 116, 32, 111, 118, 101, 114, 108, 97, 112, 112, 105, 110, 103, 32, 112, 97, 114, 116, 105, 116, 105, 111, 110, 32, 112, 97, 116, 116, 101, 114, 110, 32, 114, 115, 116, 114, 101, 97, 109, 32, 115, 99, 104, 101, 109, 97, 32, 115, 101, 108, 101, 99, 116, 32, 115, 101, 116, 32, 115, 110, 97, 112, 115, 104, 111, 116, 32, 115, 116, 97, 114, 116, 32, 115, 117, 109, 32, 116, 104, 101, 110, 32, 116, 105, 109, 101, 114, 32, 116, 114, 117, 101, 32, 117, 112, 100, 97, 116, 101, 32, 119, 104, 101, 110, 32, 119, 104, 101, 114, 101, 32, 119, 105, 110, 100, 111, 119, 32, 119, 105, 116, 104, 105, 110]
def words : List Bytes := Lib.fields wordsText

/-- What is read at a rest's beginning. -/
structure Got where
  kind : Int
  text : Bytes
  n : Int
  used : Nat
  err : Int
deriving DecidableEq

def nameL (ws : List Bytes) (r : Bytes) : Got :=
  let k := run isWordy r
  let low := Lib.toLowerA (r.take k)
  if low ∈ ws then ⟨2, low, 0, k, 0⟩ else ⟨1, r.take k, 0, k, 0⟩

/-- A period's unit: does it stand here? -/
def unitAt (u r : Bytes) : Bool := Lib.hasPrefix r u && (!isLetter (lk r u.length) && !isDigit (lk r u.length))
def unitL (r : Bytes) : Int × Nat :=
  if unitAt [109, 115] r then (1, 2) else if unitAt [115] r then (1000, 1) else if unitAt [109] r then (60000, 1) else if unitAt [104] r then (3600000, 1) else if unitAt [100] r then (86400000, 1) else (0, 0)

/-- A numeral's value, and whether it leaves an int. -/
def atoiV (d : Bytes) : Int := match Lib.atoiAll d with | .ok v => v | Lib.NumEnd.syntax => 0 | .range => Lib.atoiSat d
def atoiOver (d : Bytes) : Bool := match Lib.atoiAll d with | .ok _ => false | _ => true

def numberL (r : Bytes) : Got :=
  let k := run isDigit r
  let d := r.take k
  let e0 : Int := if decide (1 < k) && (lk d 0 == 48) then 50 else 0
  let u := unitL (r.drop k)
  if 0 < u.2 then ⟨7, [], atoiV d * u.1, k + u.2, failE e0 (if atoiOver d || decide (1099511627776 / u.1 < atoiV d) then 51 else 0)⟩
  else if lk (r.drop k) 0 == 46 && isDigit (lk (r.drop k) 1) then
    let p := run isDigit (r.drop (k + 1))
    let part := (r.drop (k + 1)).take p
    if decide (4 < p) || isLetter (lk (r.drop (k + 1 + p)) 0) then ⟨4, [], 0, k + 1 + p, failE e0 50⟩
    else
      let d2 := d ++ part ++ Lib.repeatL [48] (4 - p)
      ⟨4, [], atoiV d2, k + 1 + p, failE e0 (if atoiOver d2 then 51 else 0)⟩
  else ⟨3, [], atoiV d, k, failE (failE e0 (if isLetter (lk (r.drop k) 0) then 50 else 0)) (if atoiOver d then 51 else 0)⟩

/-- A text's bytes behind its first ', and how many bytes it takes, its last ' with it. -/
def textC : Bytes → Option (Bytes × Nat)
  | [] => none
  | [c] => if c.toNat = 39 then some ([], 1) else none
  | c :: c2 :: r =>
    if c.toNat = 39 then (if c2.toNat = 39 then (textC r).map fun x => (39 :: x.1, x.2 + 2) else some ([], 1))
    else (textC (c2 :: r)).map fun x => (c :: x.1, x.2 + 1)

def textL (r : Bytes) : Got :=
  match textC (r.drop 1) with
  | none => ⟨5, [], 0, r.length, 52⟩
  | some (t, u) => ⟨5, t, 0, u + 1, if decide (1024 < t.length) || !Lib.validD t then 52 else 0⟩

def signs : List Bytes := [[60, 61], [62, 61], [33, 61], [45, 62], [60], [62], [61], [43], [45], [42], [47], [37], [40], [41], [44], [46], [59], [91], [93], [35]]
def signL (r : Bytes) : Got :=
  match signs.find? (fun g => Lib.hasPrefix r g) with
  | some g => ⟨6, g, 0, g.length, 0⟩
  | none => ⟨0, [], 0, 0, 50⟩

def tokL (ws : List Bytes) (r : Bytes) : Got :=
  if isLetter (lk r 0) then nameL ws r else if isDigit (lk r 0) then numberL r else if lk r 0 == 39 then textL r else signL r

/-- Blanks and notes. -/
inductive Skip where
  | none
  | by_ (k : Nat)
  | bad
deriving DecidableEq
def isBlank (c : Int) : Bool := (c == 9) || ((c == 10) || ((c == 13) || (c == 32)))
def skipL (r : Bytes) : Skip :=
  if isBlank (lk r 0) then .by_ 1
  else if Lib.hasPrefix r [45, 45] then .by_ (run notLine r)
  else if Lib.hasPrefix r [47, 42] then (if Lib.index (r.drop 2) [42, 47] < 0 then .bad else .by_ ((Lib.index (r.drop 2) [42, 47]).toNat + 4))
  else .none

/-- The next token: where it begins. -/
inductive Next where
  | fin
  | bad (p : Nat) (e : Int)
  | tok (p : Nat) (g : Got)
deriving DecidableEq
def nextL (ws : List Bytes) : Nat → Bytes → Nat → Next
  | 0, _, _ => .fin
  | f + 1, r, p =>
    if r = [] then .fin else
    match skipL r with
    | .by_ k => nextL ws f (r.drop k) (p + k)
    | .bad => .bad p 50
    | .none => if (tokL ws r).err = 0 then .tok p (tokL ws r) else .bad p (tokL ws r).err

structure Tk where
  kind : Int
  text : Bytes
  n : Int
  at_ : Nat
deriving DecidableEq
/-- All tokens, or where and why there are none. -/
def lexL (ws : List Bytes) : Nat → Bytes → Nat → Except (Nat × Int) (List Tk)
  | 0, _, _ => .ok []
  | f + 1, r, p =>
    match nextL ws (r.length + 1) r p with
    | .fin => .ok []
    | .bad q e => .error (q, e)
    | .tok q g =>
      match lexL ws f (r.drop (q - p + g.used)) (q + g.used) with
      | .ok l => .ok (⟨g.kind, g.text, g.n, q⟩ :: l)
      | .error x => .error x

/-! ### laws -/
theorem hasPrefix_length {r g : Bytes} (h : Lib.hasPrefix r g = true) : g.length ≤ r.length := by
  unfold Lib.hasPrefix at h
  rw [List.isPrefixOf_iff_prefix] at h
  exact h.length_le

theorem indexByte_nil (c : UInt8) : Lib.indexByte [] c = -1 := rfl
/-- One round of the text's reader. -/
theorem textC_none : ∀ (r : Bytes), Lib.indexByte r 39 < 0 → textC r = none
  | [], _ => rfl
  | [c], h => by
    have hc : ¬ c.toNat = 39 := by
      intro hc
      have : c = 39 := UInt8.toNat_inj.1 hc
      subst this
      simp [Lib.indexByte] at h
    simp [textC, hc]
  | c :: c2 :: r, h => by
    have hc : ¬ c.toNat = 39 := by
      intro hc
      have : c = 39 := UInt8.toNat_inj.1 hc
      subst this
      simp [Lib.indexByte] at h
    have hne : (c == 39) = false := by
      rw [beq_eq_false_iff_ne]
      rintro rfl
      exact hc rfl
    have h2 : Lib.indexByte (c2 :: r) 39 < 0 := by
      have hge := Lib.indexByte_ge (c2 :: r) 39
      rw [Lib.indexByte] at h
      rw [hne] at h
      simp only [Bool.false_eq_true, if_false] at h
      split at h
      · rename_i h1
        have := beq_iff_eq.1 h1
        omega
      · omega
    rw [textC, if_neg hc, textC_none (c2 :: r) h2]
    rfl
theorem textC_some : ∀ (r : Bytes) (i : Nat), Lib.indexByte r 39 = i →
    i < r.length ∧ textC r = if lk (r.drop (i + 1)) 0 = 39 then (textC (r.drop (i + 2))).map fun x => (r.take i ++ 39 :: x.1, x.2 + (i + 2)) else some (r.take i, i + 1)
  | [], i, h => by simp [Lib.indexByte] at h
  | [c], i, h => by
    by_cases hc : c.toNat = 39
    · have : c = 39 := UInt8.toNat_inj.1 hc
      subst this
      have : i = 0 := by simp [Lib.indexByte] at h; omega
      subst this
      simp [textC, lk]
    · have hne : (c == 39) = false := by
        rw [beq_eq_false_iff_ne]
        rintro rfl
        exact hc rfl
      simp [Lib.indexByte, hne] at h
  | c :: c2 :: r, i, h => by
    by_cases hc : c.toNat = 39
    · have : c = 39 := UInt8.toNat_inj.1 hc
      subst this
      have : i = 0 := by simp [Lib.indexByte] at h; omega
      subst this
      refine ⟨by simp, ?_⟩
      rw [textC, if_pos hc]
      by_cases hc2 : c2.toNat = 39
      · rw [if_pos hc2]
        have : lk (List.drop (0 + 1) (39 :: c2 :: r)) 0 = 39 := by simp [lk, hc2]
        rw [if_pos this]
        simp
      · rw [if_neg hc2]
        have : ¬ lk (List.drop (0 + 1) (39 :: c2 :: r)) 0 = 39 := by simp [lk]; omega
        rw [if_neg this]
        simp
    · have hne : (c == 39) = false := by
        rw [beq_eq_false_iff_ne]
        rintro rfl
        exact hc rfl
      rw [Lib.indexByte, hne] at h
      simp only [Bool.false_eq_true, if_false] at h
      split at h
      · omega
      · obtain ⟨j, rfl⟩ : ∃ j, i = j + 1 := ⟨i - 1, by have := Lib.indexByte_ge (c2 :: r) 39; rename_i h1; have : Lib.indexByte (c2 :: r) 39 ≠ -1 := fun e => h1 (by rw [e]; rfl); omega⟩
        obtain ⟨h1, h2⟩ := textC_some (c2 :: r) j (by omega)
        refine ⟨by simp at h1 ⊢; omega, ?_⟩
        rw [textC, if_neg hc, h2]
        have e1 : List.drop (j + 1 + 1) (c :: c2 :: r) = List.drop (j + 1) (c2 :: r) := rfl
        have e2 : List.drop (j + 1 + 2) (c :: c2 :: r) = List.drop (j + 2) (c2 :: r) := rfl
        rw [e1, e2]
        split
        · cases textC (List.drop (j + 2) (c2 :: r)) <;> simp <;> omega
        · simp
end Go.Proofs.YtfhiemficfibgaaGreatDoor
