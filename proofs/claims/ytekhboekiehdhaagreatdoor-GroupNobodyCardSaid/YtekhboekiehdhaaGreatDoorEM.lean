/- Maps over names. -/
import Derived.Test.YtekhboekiehdhaaGreatDoorE5
import Derived.MapKept
import Derived.Maps.RangeRun
set_option linter.unusedVariables false
set_option linter.unusedSimpArgs false
namespace Go.Proofs.YtekhboekiehdhaaGreatDoor
namespace Ev
open Go.RowKit
open Go.ChangeMaps (setBlock)

section
variable {base : Nat} {ρ : Env} {H : Heap} {w : World}
/-- A new thing, no row, under a new name. -/
theorem sat_newO {nx : Nat} {o : SO} {ob : Obj} {sz : Nat} (h : Sat base ρ H.get w) (hn : ρ nx = none) (ho : OSat ρ o ob sz) :
    ∃ ρ' : Env, Ext ρ ρ' nx (nx + 1) ∧ ρ' nx = some (w.heap.size, sz) ∧ Sat base ρ' (H.put nx (some ⟨false, o⟩)).get (w.alloc ob) ∧ Keep H.get ρ w (H.put nx (some ⟨false, o⟩)).get ρ' (w.alloc ob) := by
  let ρ' : Env := fun n => if n = nx then some (w.heap.size, sz) else ρ n
  have hmore : More ρ ρ' := by
    intro n x hx
    show (if n = nx then _ else ρ n) = some x
    rw [if_neg (fun e => by rw [e, hn] at hx; cases hx)]
    exact hx
  refine ⟨ρ', ⟨hmore, fun n hn' => if_neg (by omega)⟩, if_pos rfl, ⟨?_, ?_, ?_⟩, ⟨rfl, rfl, rfl, by simp, fun b hb _ => ?_, ?_⟩⟩
  · have := h.room; simp; omega
  · intro n s hs
    rw [PT.get_put] at hs
    by_cases hne : n = nx
    · rw [if_pos hne] at hs
      injection hs with hs
      subst hs
      subst hne
      exact ⟨_, _, if_pos rfl, h.room, heap_alloc_new w _, ho.more hmore⟩
    · rw [if_neg hne] at hs
      obtain ⟨p, ob, h1, h2, h3, h4⟩ := h.held n s hs
      exact ⟨p, ob, hmore n p h1, h2, by rw [Below.heap_alloc w _ _ (Array.getElem?_eq_some_iff.1 h3).1]; exact h3, h4.more hmore⟩
  · intro n m s t p q hs ht hp hq hpq
    rw [PT.get_put] at hs ht
    have key : ∀ n s p, n ≠ nx → H.get n = some s → ρ' n = some p → p.1 < w.heap.size := by
      intro n s p hne hs hp
      have hp' : ρ n = some p := by
        have : ρ' n = ρ n := if_neg hne
        rw [← this]; exact hp
      exact h.lt hs hp'
    have hnx : ∀ p, ρ' nx = some p → p.1 = w.heap.size := by
      intro p hp
      have : ρ' nx = some (w.heap.size, sz) := if_pos rfl
      rw [this] at hp; injection hp with hp; rw [← hp]
    by_cases h1 : n = nx
    · by_cases h2 : m = nx
      · rw [h1, h2]
      · rw [if_neg h2] at ht
        have := key m t q h2 ht hq
        rw [h1] at hp
        have := hnx p hp
        omega
    · rw [if_neg h1] at hs
      by_cases h2 : m = nx
      · have := key n s p h1 hs hp
        rw [h2] at hq
        have := hnx q hq
        omega
      · rw [if_neg h2] at ht
        have e1 : ρ' n = ρ n := if_neg h1
        have e2 : ρ' m = ρ m := if_neg h2
        rw [e1] at hp
        rw [e2] at hq
        exact h.apart n m s t p q hs ht hp hq hpq
  · exact Below.heap_alloc w _ b hb
  · intro n s p h1 h2 h3
    rw [PT.get_put] at h1
    by_cases hne : n = nx
    · have : ρ' nx = some (w.heap.size, sz) := if_pos rfl
      rw [hne, this] at h3
      injection h3 with h3
      exact .inl (by rw [← h3]; exact Nat.le_refl _)
    · rw [if_neg hne] at h1
      have : ρ' n = ρ n := if_neg hne
      rw [this] at h3
      exact .inr ⟨n, s, p, h1, h2, h3, rfl⟩
/-- A thing is written over. -/
theorem sat_setO {n : Nat} {o o' : SO} {ob' : Obj} {b sz : Nat} (h : Sat base ρ H.get w) (hn : H.get n = some ⟨false, o⟩) (hp : ρ n = some (b, sz)) (ho : OSat ρ o' ob' sz) :
    Sat base ρ (H.put n (some ⟨false, o'⟩)).get (setBlock w b ob') ∧ Keep H.get ρ w (H.put n (some ⟨false, o'⟩)).get ρ (setBlock w b ob') := by
  have hlt := h.lt hn hp
  have hsame : (setBlock w b ob').heap[b]? = some ob' := by
    have : b < w.heap.size := hlt
    simp [setBlock, this]
  have hother : ∀ k, k ≠ b → (setBlock w b ob').heap[k]? = w.heap[k]? := fun k hk => by simp only [setBlock]; rw [Array.getElem?_setIfInBounds_ne (fun e => hk e.symm)]
  refine ⟨⟨?_, ?_, ?_⟩, ⟨rfl, rfl, rfl, by simp [setBlock], fun k _ hk => hother k (fun e => hk n _ _ hn rfl hp e.symm), ?_⟩⟩
  · simpa [setBlock] using h.room
  · intro m s hs
    rw [PT.get_put] at hs
    by_cases hne : m = n
    · rw [if_pos hne] at hs
      injection hs with hs
      subst hs
      subst hne
      obtain ⟨p, ob, h1, h2, h3, h4⟩ := h.held m _ hn
      rw [hp] at h1; injection h1 with h1; subst h1
      exact ⟨_, _, hp, h2, hsame, ho⟩
    · rw [if_neg hne] at hs
      obtain ⟨p, ob, h1, h2, h3, h4⟩ := h.held m s hs
      refine ⟨p, ob, h1, h2, ?_, h4⟩
      rw [hother p.1 (fun e => hne (h.apart m n _ _ _ _ hs hn h1 hp e))]
      exact h3
  · intro i j s t p q hs ht hpi hq hpq
    rw [PT.get_put] at hs ht
    have hi : ∃ s', H.get i = some s' := by
      by_cases e : i = n
      · exact ⟨_, e ▸ hn⟩
      · rw [if_neg e] at hs; exact ⟨_, hs⟩
    have hj : ∃ s', H.get j = some s' := by
      by_cases e : j = n
      · exact ⟨_, e ▸ hn⟩
      · rw [if_neg e] at ht; exact ⟨_, ht⟩
    obtain ⟨s', hs'⟩ := hi
    obtain ⟨t', ht'⟩ := hj
    exact h.apart i j s' t' p q hs' ht' hpi hq hpq
  · intro i s p h1 h2 h3
    rw [PT.get_put] at h1
    by_cases e : i = n
    · exact .inr ⟨n, _, p, hn, rfl, e ▸ h3, rfl⟩
    · rw [if_neg e] at h1
      exact .inr ⟨i, s, p, h1, h2, h3, rfl⟩
/-- A map as the world has it. -/
theorem Sat.map {n : Nat} {k : Bool} {es : List (SV × SV × Nat)} {clock : Nat} (h : Sat base ρ H.get w) (hn : H.get n = some ⟨k, .map es clock⟩) :
    ∃ b sz entries, ρ n = some (b, sz) ∧ w.heap[b]? = some (.map entries clock) ∧ denE ρ es entries.toList := by
  obtain ⟨p, ob, h1, h2, h3, entries, h4, rfl⟩ := h.held n _ hn
  exact ⟨p.1, p.2, entries, h1, h3, h4⟩
end

theorem denE_cons {ρ : Env} {x : SV × SV × Nat} {r : List (SV × SV × Nat)} {es : List MapEntry} : denE ρ (x :: r) es ↔ ∃ kv vv rest, den ρ x.1 = some kv ∧ den ρ x.2.1 = some vv ∧ denE ρ r rest ∧ es = { key := kv, val := vv, born := x.2.2 } :: rest := by
  obtain ⟨k, v, b⟩ := x
  rfl
theorem denE_length {ρ : Env} : ∀ {l : List (SV × SV × Nat)} {es : List MapEntry}, denE ρ l es → es.length = l.length
  | [], es, h => by simp [denE] at h; simp [h]
  | x :: r, es, h => by
    obtain ⟨kv, vv, rest, h1, h2, h3, rfl⟩ := denE_cons.1 h
    simp [denE_length h3]
theorem denE_append {ρ : Env} : ∀ {l m : List (SV × SV × Nat)} {es fs : List MapEntry}, denE ρ l es → denE ρ m fs → denE ρ (l ++ m) (es ++ fs)
  | [], m, es, fs, h, k => by simp [denE] at h; subst h; simpa using k
  | x :: r, m, es, fs, h, k => by
    obtain ⟨kv, vv, rest, h1, h2, h3, rfl⟩ := denE_cons.1 h
    exact denE_cons.2 ⟨kv, vv, rest ++ fs, h1, h2, denE_append h3 k, rfl⟩
/-- An entry is written over. -/
def setE : List (SV × SV × Nat) → Nat → SV → SV → List (SV × SV × Nat)
  | [], _, _, _ => []
  | (_, _, b) :: r, 0, k, v => (k, v, b) :: r
  | x :: r, i + 1, k, v => x :: setE r i k v
def delE : List (SV × SV × Nat) → Nat → List (SV × SV × Nat)
  | [], _ => []
  | _ :: r, 0 => r
  | x :: r, i + 1 => x :: delE r i
theorem denE_set {ρ : Env} {k v : SV} {kv vv : Value} (hk : den ρ k = some kv) (hv : den ρ v = some vv) : ∀ {l : List (SV × SV × Nat)} {es : List MapEntry} (i : Nat), denE ρ l es → denE ρ (setE l i k v) (es.modify i fun e => { e with key := kv, val := vv })
  | [], es, i, h => by simp [denE] at h; subst h; cases i <;> simp [setE, denE, List.modify]
  | (k', v', b) :: r, es, 0, h => by
    obtain ⟨ku, vu, rest, h1, h2, h3, rfl⟩ := denE_cons.1 h
    exact denE_cons.2 ⟨kv, vv, rest, hk, hv, h3, by simp⟩
  | (k', v', b) :: r, es, i + 1, h => by
    obtain ⟨ku, vu, rest, h1, h2, h3, rfl⟩ := denE_cons.1 h
    exact denE_cons.2 ⟨ku, vu, _, h1, h2, denE_set hk hv i h3, by simp⟩
theorem denE_del {ρ : Env} : ∀ {l : List (SV × SV × Nat)} {es : List MapEntry} (i : Nat), denE ρ l es → denE ρ (delE l i) (es.eraseIdx i)
  | [], es, i, h => by simp [denE] at h; subst h; simp [delE, denE]
  | (k', v', b) :: r, es, 0, h => by
    obtain ⟨ku, vu, rest, h1, h2, h3, rfl⟩ := denE_cons.1 h
    simpa [delE] using h3
  | (k', v', b) :: r, es, i + 1, h => by
    obtain ⟨ku, vu, rest, h1, h2, h3, rfl⟩ := denE_cons.1 h
    exact denE_cons.2 ⟨ku, vu, _, h1, h2, denE_del i h3, by simp⟩
theorem denE_mem {ρ : Env} : ∀ {l : List (SV × SV × Nat)} {es : List MapEntry} {e : MapEntry}, denE ρ l es → e ∈ es → ∃ x ∈ l, den ρ x.1 = some e.key ∧ den ρ x.2.1 = some e.val ∧ x.2.2 = e.born
  | [], es, e, h, he => by simp [denE] at h; subst h; cases he
  | x :: r, es, e, h, he => by
    obtain ⟨kv, vv, rest, h1, h2, h3, rfl⟩ := denE_cons.1 h
    rcases List.mem_cons.1 he with rfl | he
    · exact ⟨x, by simp, h1, h2, rfl⟩
    · obtain ⟨y, hy, g⟩ := denE_mem h3 he
      exact ⟨y, by simp [hy], g⟩
theorem denE_mem' {ρ : Env} : ∀ {l : List (SV × SV × Nat)} {es : List MapEntry} {x : SV × SV × Nat}, denE ρ l es → x ∈ l → ∃ e ∈ es, e.born = x.2.2
  | [], es, x, h, hx => by cases hx
  | y :: r, es, x, h, hx => by
    obtain ⟨kv, vv, rest, h1, h2, h3, rfl⟩ := denE_cons.1 h
    rcases List.mem_cons.1 hx with rfl | hx
    · exact ⟨_, List.mem_cons_self, rfl⟩
    · obtain ⟨e, he, g⟩ := denE_mem' h3 hx
      exact ⟨e, by simp [he], g⟩
/-- An entry by its stamp. -/
def findB : List (SV × SV × Nat) → Nat → Option (SV × SV)
  | [], _ => none
  | (k, v, b) :: r, n => bif Nat.beq b n then some (k, v) else findB r n
theorem findB_ok {ρ : Env} : ∀ {l : List (SV × SV × Nat)} {es : List MapEntry} {n : Nat} {x : SV × SV}, denE ρ l es → findB l n = some x → ∃ e, es.find? (·.born == n) = some e ∧ den ρ x.1 = some e.key ∧ den ρ x.2 = some e.val
  | [], es, n, x, h, e => by cases e
  | (k, v, b) :: r, es, n, x, h, e => by
    obtain ⟨kv, vv, rest, h1, h2, h3, rfl⟩ := denE_cons.1 h
    simp only [findB] at e
    cases hb : Nat.beq b n with
    | true =>
      rw [hb] at e
      simp only [cond_true] at e
      injection e with e
      subst e
      have : b = n := Nat.eq_of_beq_eq_true hb
      subst this
      exact ⟨{ key := kv, val := vv, born := b }, by simp, h1, h2⟩
    | false =>
      rw [hb] at e
      simp only [cond_false] at e
      obtain ⟨f, g1, g2, g3⟩ := findB_ok h3 e
      refine ⟨f, ?_, g2, g3⟩
      have hne : ¬ b = n := beq_ne hb
      simp [hne, g1]

/-- A key of these kinds. -/
def keyKind (P : Program) (t : TypeId) (k : Value) : Option TypeDesc :=
  match P.underlying t, k with
  | some (.int ik), .int _ _ => some (.int ik)
  | some .string, .string _ => some .string
  | _, _ => none
theorem keyKind_under {P : Program} {t : TypeId} {k : Value} {d : TypeDesc} (h : keyKind P t k = some d) : P.underlying t = some d ∧ ((∃ ik j n, d = .int ik ∧ k = .int j n) ∨ (∃ s, d = .string ∧ k = .string s)) := by
  unfold keyKind at h
  split at h
  · rename_i ik j n hu
    injection h with h
    exact ⟨h ▸ hu, .inl ⟨ik, j, n, h.symm, rfl⟩⟩
  · rename_i s hu
    injection h with h
    exact ⟨h ▸ hu, .inr ⟨s, h.symm, rfl⟩⟩
  · cases h
theorem run_checkK {P : Program} {t : TypeId} {k : Value} {d : TypeDesc} (h : keyKind P t k = some d) (b : Bool) (n : Nat) (w : World) : (Instr.checkKey b (n + 1) t k).run P w = .ok () w := by
  obtain ⟨hu, ⟨ik, j, m, rfl, rfl⟩ | ⟨s, rfl, rfl⟩⟩ := keyKind_under h <;> simp [Instr.checkKey, run_underlying hu]
def bytesEq : List UInt8 → List UInt8 → Bool
  | [], [] => true
  | a :: r, b :: s => bif Nat.beq a.toNat b.toNat then bytesEq r s else false
  | _, _ => false
theorem bytesEq_iff : ∀ (a b : List UInt8), bytesEq a b = true ↔ a = b
  | [], [] => by simp [bytesEq]
  | [], _ :: _ => by simp [bytesEq]
  | _ :: _, [] => by simp [bytesEq]
  | a :: r, b :: s => by
    simp only [bytesEq]
    cases hb : Nat.beq a.toNat b.toNat with
    | true =>
      have : a = b := UInt8.toNat_inj.1 (Nat.eq_of_beq_eq_true hb)
      subst this
      simp [bytesEq_iff r s]
    | false =>
      have : a ≠ b := fun e => beq_ne hb (by rw [e])
      simp [this]
theorem bytes_beq (a b : ByteArray) : (a == b) = bytesEq a.data.toList b.data.toList := by
  have h : (a == b) = (a.data == b.data) := rfl
  rw [h, Bool.eq_iff_iff, bytesEq_iff]
  simp [Array.toList_inj]
def sameS : Value → Value → Option Bool
  | .int k a, .int k' b => if k = k' then some (a == b) else none
  | .string a, .string b => some (bytesEq a.data.toList b.data.toList)
  | _, _ => none
def sfind (k : Value) : List (SV × SV × Nat) → Nat → Option (Option (Nat × SV))
  | [], _ => some none
  | (.lit u, v, _) :: r, i => match sameS k u with
    | some true => some (some (i, v))
    | some false => sfind k r (i + 1)
    | none => none
  | _ :: _, _ => none
theorem sameS_now {P : Program} {t : TypeId} {k u : Value} {d : TypeDesc} {b : Bool} (h : keyKind P t k = some d) (hs : sameS k u = some b) : Instr.sameNow d k u = some b ∧ (b = true → u = k) := by
  obtain ⟨hu, ⟨ik, j, m, rfl, rfl⟩ | ⟨s, rfl, rfl⟩⟩ := keyKind_under h
  · cases u <;> simp [sameS] at hs
    obtain ⟨rfl, hs⟩ := hs
    subst hs
    exact ⟨by simp [Instr.sameNow], fun e => by simp at e; simp [e]⟩
  · cases u <;> simp [sameS] at hs
    subst hs
    refine ⟨by simp [Instr.sameNow, bytes_beq], fun e => ?_⟩
    rw [bytesEq_iff] at e
    rename_i a
    cases s; cases a
    simp [Array.toList_inj] at e
    rw [e]
theorem sfind_ok {P : Program} {t : TypeId} {k : Value} {d : TypeDesc} {ρ : Env} (h : keyKind P t k = some d) : ∀ {l : List (SV × SV × Nat)} {es : List MapEntry} {i : Nat} {r : Option (Nat × SV)}, denE ρ l es → sfind k l i = some r →
    match r with
    | none => Instr.findNow d k es i = some none
    | some (j, s) => ∃ v, Instr.findNow d k es i = some (some (j, v)) ∧ den ρ s = some v ∧ i ≤ j ∧ ∃ e, es[j - i]? = some e ∧ e.key = k
  | [], es, i, r, hl, hs => by
    simp [denE] at hl
    subst hl
    simp [sfind] at hs
    subst hs
    rfl
  | (ks, vs, b) :: l, es, i, r, hl, hs => by
    obtain ⟨kv, vv, rest, h1, h2, h3, rfl⟩ := denE_cons.1 hl
    cases ks with
    | lit u =>
      simp [den] at h1
      subst h1
      simp only [sfind] at hs
      split at hs
      · rename_i hsame
        obtain ⟨g1, g2⟩ := sameS_now h hsame
        injection hs with hs
        subst hs
        refine ⟨vv, by simp [Instr.findNow, g1], h2, Nat.le_refl _, { key := u, val := vv, born := b }, by simp, g2 rfl⟩
      · rename_i hsame
        obtain ⟨g1, _⟩ := sameS_now h hsame
        have hstep : Instr.findNow d k ({ key := u, val := vv, born := b } :: rest) i = Instr.findNow d k rest (i + 1) := by simp [Instr.findNow, g1]
        have ih := sfind_ok h h3 hs
        cases r with
        | none =>
          simp only at ih ⊢
          rw [← ih, ← hstep]
        | some x =>
          obtain ⟨j, s⟩ := x
          obtain ⟨v, k1, k2, k3, e, k4, k5⟩ := ih
          refine ⟨v, by rw [← k1, ← hstep], k2, by omega, e, ?_, k5⟩
          rw [show j - i = (j - (i + 1)) + 1 by omega]
          simpa using k4
      · cases hs
    | _ => simp [sfind] at hs
theorem run_findK {P : Program} {t : TypeId} {k : Value} {d : TypeDesc} (h : keyKind P t k = some d) {es : List MapEntry} {r : Option (Nat × Value)} (hf : Instr.findNow d k es 0 = some r) (w : World) : (Instr.findKey t k es).run P w = .ok r w := by
  simp [Instr.findKey, run_underlying (keyKind_under h).1, hf]
theorem run_staysK {P : Program} {t : TypeId} {k : Value} {d : TypeDesc} (h : keyKind P t k = some d) (w : World) : (Instr.keyThatStays k k).run P w = .ok k w := by
  have : Instr.sameBits 10000 k k = true := by
    obtain ⟨hu, ⟨ik, j, m, rfl, rfl⟩ | ⟨s, rfl, rfl⟩⟩ := keyKind_under h
    · simp [Instr.sameBits]
    · simp [Instr.sameBits, bytes_beq, bytesEq_iff]
  simp [Instr.keyThatStays, this]

section
variable {P : Program} {base : Nat} {o : Oper} {σ : Sig} {H : Heap} {nx : Nat} {out : Out}
/-- makeMap -/
theorem ok_makeMap {t : TypeId} (ho : o.op = .makeMap t none) : OpOK P base o σ H nx (.mp nx, H.put nx (some ⟨false, .map [] 0⟩), nx + 1) := by
  refine ⟨by simp, dom_new _ _ _, fun ρ a w hσ hs hf => ?_⟩
  obtain ⟨ρ', h1, h2, h3, h4⟩ := sat_newO (nx := nx) (o := .map [] 0) (ob := .map #[] 0) (sz := 0) hs (hf nx (Nat.le_refl _) (by simp)) ⟨#[], by simp [denE], rfl⟩
  refine ⟨ρ', .map (some w.heap.size), _, .inl ?_, h1, ?_, h3, h4⟩
  · simp [execOp, ho, Instr.makeMap]
  · simp only [den, h2, Option.map_some]

def mapTy (P : Program) (t : TypeId) : Option (TypeId × TypeId) := match P.underlying t with
  | some (.map k e) => some (k, e)
  | _ => none
theorem mapTy_under {t k e : TypeId} (h : mapTy P t = some (k, e)) : P.underlying t = some (.map k e) := by
  unfold mapTy at h
  split at h
  · rename_i k' e' hu
    injection h with h
    injection h with h1 h2
    subst h1; subst h2
    exact hu
  · cases h
/-- lookup -/
def lookS (ok : Bool) (v : SV) (b : Bool) : SV := bif ok then .tup [v, .lit (.bool b)] else v
def evLookup (P : Program) (t : TypeId) (s ix : SV) (ok : Bool) (H : Heap) : Option SV :=
  match mapTy P t, plain ix with
  | some (kt, et), some kv => match keyKind P kt kv with
    | some _ => match s with
      | .mp n => match H.get n with
        | some ⟨_, .map es _⟩ => match sfind kv es 0 with
          | some (some (_, v)) => some (lookS ok v true)
          | some none => (zeroOf P et).map fun z => lookS ok (ofV z) false
          | none => none
        | _ => none
      | .lit (.map none) => (zeroOf P et).map fun z => lookS ok (ofV z) false
      | _ => none
    | none => none
  | _, _ => none
theorem lookS_den {ρ : Env} {ok b : Bool} {s : SV} {v : Value} (h : den ρ s = some v) : den ρ (lookS ok s b) = some (if ok then .tuple #[v, .bool b] else v) := by
  cases ok
  · simpa [lookS] using h
  · simp [lookS, den, denL, h]
theorem ok_lookup {t : TypeId} {x y : Operand} {ok : Bool} {s ix q : SV} (ho : o.op = .lookup t x y ok) (hx : σ x = some s) (hy : σ y = some ix) (h : evLookup P t s ix ok H = some q) : OpOK P base o σ H nx (q, H, nx) := by
  refine ok_still fun ρ a w hσ hs => ?_
  have hd := hσ x (by simp [ho, Op.operands]) _ hx
  have hdi := hσ y (by simp [ho, Op.operands]) _ hy
  unfold evLookup at h
  split at h
  case h_2 => cases h
  rename_i kt et kv ht hk
  have hu := mapTy_under ht
  have hkv : a.eval y = kv := by
    have := plain_den hk ρ
    rw [hdi] at this
    injection this
  split at h
  case h_2 => cases h
  rename_i d hd'
  have hzero : ∀ (es : Array MapEntry) (q' : SV), ((zeroOf P et).map fun z => lookS ok (ofV z) false) = some q' → Instr.findNow d kv es.toList 0 = some none → ∃ v, (do
      let (v, b) ← match ← Instr.findKey kt kv es.toList with
        | some (_, v) => pure (v, true)
        | none => pure (← zeroValue et, false)
      pure (if ok then Value.tuple #[v, .bool b] else v) : Sem Value).run P w = .ok v w ∧ den ρ q' = some v := by
    intro es q' hq hf
    cases hz : zeroOf P et with
    | none => simp [hz] at hq
    | some z =>
      simp [hz] at hq
      subst hq
      exact ⟨_, by simp [run_findK hd' hf, run_zero hz], lookS_den (den_ofV ρ z)⟩
  split at h
  · rename_i n
    split at h
    · rename_i lk es clock hg
      obtain ⟨b, sz, entries, h1, h2, h3⟩ := hs.map hg
      simp only [den, h1, Option.map_some] at hd
      injection hd with hd
      split at h
      · rename_i j v hf
        injection h with h
        subst h
        obtain ⟨u, g1, g2, _⟩ := sfind_ok hd' h3 hf
        refine ⟨_, ?_, lookS_den g2⟩
        simp [execOp, ho, Instr.lookup, run_underlying hu, ← hd, hkv, MapKept.run_getObj_map h2, run_checkK hd', run_findK hd' g1]
      · rename_i hf
        have g1 := sfind_ok hd' h3 hf
        simp only at g1
        obtain ⟨v, k1, k2⟩ := hzero entries q h g1
        refine ⟨v, ?_, k2⟩
        simp only [execOp, ho, Instr.lookup, Sem.run_bind, run_underlying hu, Result.andThen_ok, ← hd, hkv, MapKept.run_getObj_map h2, Sem.run_pure, run_checkK hd', run_findK hd' g1] at k1 ⊢
        rw [k1]
        rfl
      · cases h
    · cases h
  · simp [den] at hd
    have g1 : Instr.findNow d kv (#[] : Array MapEntry).toList 0 = some none := rfl
    obtain ⟨v, k1, k2⟩ := hzero #[] q h g1
    refine ⟨v, ?_, k2⟩
    simp only [execOp, ho, Instr.lookup, Sem.run_bind, run_underlying hu, Result.andThen_ok, ← hd, hkv, Sem.run_pure, run_checkK hd', run_findK hd' g1] at k1 ⊢
    rw [k1]
    rfl
  · cases h

/-- m[k] = v -/
def evMapUpdate (P : Program) (t : TypeId) (m k v : SV) (H : Heap) (nx : Nat) : Option Out :=
  match mapTy P t, plain k with
  | some (kt, et), some kv => match keyKind P kt kv with
    | some _ => match m with
      | .mp n => match H.get n with
        | some ⟨false, .map es clock⟩ => match sfind kv es 0 with
          | some (some (i, _)) => some (.lit undef, H.put n (some ⟨false, .map (setE es i (.lit kv) v) clock⟩), nx)
          | some none => some (.lit undef, H.put n (some ⟨false, .map (es ++ [(.lit kv, v, clock)]) (clock + 1)⟩), nx)
          | none => none
        | _ => none
      | _ => none
    | none => none
  | _, _ => none
theorem ok_mapUpdate {t : TypeId} {x y z : Operand} {m k v : SV} (ho : o.op = .mapUpdate t x y z) (hx : σ x = some m) (hy : σ y = some k) (hz : σ z = some v) (h : evMapUpdate P t m k v H nx = some out) : OpOK P base o σ H nx out := by
  unfold evMapUpdate at h
  split at h
  case h_2 => cases h
  rename_i kt et kv ht hk
  have hu := mapTy_under ht
  split at h
  case h_2 => cases h
  rename_i d hd'
  split at h
  case h_2 => cases h
  rename_i n
  split at h
  case h_2 => cases h
  rename_i es clock hg
  have hyv : ∀ (ρ : Env) (a : Act), (∀ x ∈ o.op.operands, ∀ s, σ x = some s → den ρ s = some (a.eval x)) → a.eval y = kv := by
    intro ρ a hσ
    have := plain_den hk ρ
    rw [hσ y (by simp [ho, Op.operands]) _ hy] at this
    injection this
  split at h
  · rename_i i s0 hf
    injection h with h
    subst h
    refine ⟨Nat.le_refl _, dom_set H n _ _ hg _ _, fun ρ a w hσ hs hfr => ?_⟩
    have hd := hσ x (by simp [ho, Op.operands]) _ hx
    have hdv := hσ z (by simp [ho, Op.operands]) _ hz
    have hkv := hyv ρ a hσ
    obtain ⟨b, sz, entries, h1, h2, h3⟩ := hs.map hg
    simp only [den, h1, Option.map_some] at hd
    injection hd with hd
    obtain ⟨u, g1, g2, _, e, g3, g4⟩ := sfind_ok hd' h3 hf
    simp only [Nat.sub_zero, Array.getElem?_toList] at g3
    obtain ⟨k1, k2⟩ := sat_setO (o' := .map (setE es i (.lit kv) v) clock) (ob' := .map (entries.modify i fun e => { e with key := kv, val := a.eval z }) clock) hs hg h1
      ⟨_, by rw [Array.toList_modify]; exact denE_set rfl hdv i h3, rfl⟩
    refine ⟨ρ, undef, _, .inr ⟨rfl, ?_⟩, Ext.refl _ _ _, rfl, k1, k2⟩
    simp [execOp, ho, Instr.mapUpdate, run_underlying hu, ← hd, hkv, MapKept.run_getObj_map h2, run_checkK hd', run_findK hd' g1, g3, g4, run_staysK hd', MapKept.run_setObj_map _ h2, setBlock]
  · rename_i hf
    injection h with h
    subst h
    refine ⟨Nat.le_refl _, dom_set H n _ _ hg _ _, fun ρ a w hσ hs hfr => ?_⟩
    have hd := hσ x (by simp [ho, Op.operands]) _ hx
    have hdv := hσ z (by simp [ho, Op.operands]) _ hz
    have hkv := hyv ρ a hσ
    obtain ⟨b, sz, entries, h1, h2, h3⟩ := hs.map hg
    simp only [den, h1, Option.map_some] at hd
    injection hd with hd
    have g1 := sfind_ok hd' h3 hf
    simp only at g1
    obtain ⟨k1, k2⟩ := sat_setO (o' := .map (es ++ [(.lit kv, v, clock)]) (clock + 1)) (ob' := .map (entries.push { key := kv, val := a.eval z, born := clock }) (clock + 1)) hs hg h1
      ⟨_, by rw [Array.toList_push]; exact denE_append h3 (denE_cons.2 ⟨kv, _, [], rfl, hdv, by simp [denE], rfl⟩), rfl⟩
    refine ⟨ρ, undef, _, .inr ⟨rfl, ?_⟩, Ext.refl _ _ _, rfl, k1, k2⟩
    simp [execOp, ho, Instr.mapUpdate, run_underlying hu, ← hd, hkv, MapKept.run_getObj_map h2, run_checkK hd', run_findK hd' g1, MapKept.run_setObj_map _ h2, setBlock]
  · cases h

/-- delete(m, k) -/
def evDelete (P : Program) (t : TypeId) (m k : SV) (H : Heap) (nx : Nat) : Option Out :=
  match mapTy P t, plain k with
  | some (kt, et), some kv => match keyKind P kt kv with
    | some _ => match m with
      | .mp n => match H.get n with
        | some ⟨false, .map es clock⟩ => match sfind kv es 0 with
          | some (some (i, _)) => some (.lit (.tuple #[]), H.put n (some ⟨false, .map (delE es i) clock⟩), nx)
          | some none => some (.lit (.tuple #[]), H.put n (some ⟨false, .map es clock⟩), nx)
          | none => none
        | _ => none
      | _ => none
    | none => none
  | _, _ => none
theorem ok_delete {c : Call} {x y : Operand} {t t' : TypeId} {m k : SV} (ho : o.op = .call c) (hc : c.callee = .builtin .delete) (ha : c.args = #[x, y]) (hty : c.argTypes = #[t, t']) (hx : σ x = some m) (hy : σ y = some k) (h : evDelete P t m k H nx = some out) : OpOK P base o σ H nx out := by
  unfold evDelete at h
  split at h
  case h_2 => cases h
  rename_i kt et kv ht hk
  have hu := mapTy_under ht
  split at h
  case h_2 => cases h
  rename_i d hd'
  split at h
  case h_2 => cases h
  rename_i n
  split at h
  case h_2 => cases h
  rename_i es clock hg
  have hyv : ∀ (ρ : Env) (a : Act), (∀ x ∈ o.op.operands, ∀ s, σ x = some s → den ρ s = some (a.eval x)) → a.eval y = kv := by
    intro ρ a hσ
    have := plain_den hk ρ
    rw [hσ y (operands_call ho y (by simp [ha])) _ hy] at this
    injection this
  split at h
  · rename_i i s0 hf
    injection h with h
    subst h
    refine ⟨Nat.le_refl _, dom_set H n _ _ hg _ _, fun ρ a w hσ hs hfr => ?_⟩
    have hd := hσ x (operands_call ho x (by simp [ha])) _ hx
    have hkv := hyv ρ a hσ
    obtain ⟨b, sz, entries, h1, h2, h3⟩ := hs.map hg
    simp only [den, h1, Option.map_some] at hd
    injection hd with hd
    obtain ⟨u, g1, g2, _, e, g3, g4⟩ := sfind_ok hd' h3 hf
    obtain ⟨k1, k2⟩ := sat_setO (o' := .map (delE es i) clock) (ob' := .map (entries.eraseIdxIfInBounds i) clock) hs hg h1
      ⟨_, by rw [Array.toList_eraseIdxIfInBounds]; exact denE_del i h3, rfl⟩
    refine ⟨ρ, .tuple #[], _, .inl ?_, Ext.refl _ _ _, rfl, k1, k2⟩
    rw [exec_builtin ho hc]
    simp [builtin, Builtin.delete_, ha, hty, run_underlying hu, ← hd, hkv, MapKept.run_getObj_map h2, run_checkK hd', run_findK hd' g1, MapKept.run_setObj_map _ h2, setBlock]
  · rename_i hf
    injection h with h
    subst h
    refine ⟨Nat.le_refl _, dom_set H n _ _ hg _ _, fun ρ a w hσ hs hfr => ?_⟩
    have hd := hσ x (operands_call ho x (by simp [ha])) _ hx
    have hkv := hyv ρ a hσ
    obtain ⟨b, sz, entries, h1, h2, h3⟩ := hs.map hg
    simp only [den, h1, Option.map_some] at hd
    injection hd with hd
    have g1 := sfind_ok hd' h3 hf
    simp only at g1
    obtain ⟨k1, k2⟩ := sat_setO (o' := .map es clock) (ob' := .map entries clock) hs hg h1 ⟨_, h3, rfl⟩
    refine ⟨ρ, .tuple #[], _, .inl ?_, Ext.refl _ _ _, rfl, k1, k2⟩
    rw [exec_builtin ho hc]
    simp [builtin, Builtin.delete_, ha, hty, run_underlying hu, ← hd, hkv, MapKept.run_getObj_map h2, run_checkK hd', run_findK hd' g1, MapKept.run_setObj_map _ h2, setBlock]
  · cases h

/-- len of a map -/
def evLenM (P : Program) (t : TypeId) (s : SV) (H : Heap) : Option SV :=
  match s, mapTy P t with
  | .mp n, some _ => match H.get n with
    | some ⟨_, .map es _⟩ => some (.lit (goInt es.length))
    | _ => none
  | _, _ => none
theorem ok_lenM {c : Call} {x : Operand} {t : TypeId} {s q : SV} (ho : o.op = .call c) (hc : c.callee = .builtin .len) (ha : c.args = #[x]) (hty : c.argTypes = #[t]) (hx : σ x = some s) (h : evLenM P t s H = some q) : OpOK P base o σ H nx (q, H, nx) := by
  refine ok_still fun ρ a w hσ hs => ?_
  have hd := hσ x (operands_call ho x (by simp [ha])) s hx
  unfold evLenM at h
  split at h
  case h_2 => cases h
  rename_i n kt ht
  obtain ⟨kt, et⟩ := kt
  have hu := mapTy_under ht
  split at h
  case h_2 => cases h
  rename_i lk es clock hg
  injection h with h
  subst h
  obtain ⟨b, sz, entries, h1, h2, h3⟩ := hs.map hg
  simp only [den, h1, Option.map_some] at hd
  injection hd with hd
  refine ⟨goInt es.length, ?_, rfl⟩
  rw [exec_builtin ho hc]
  have hlen := denE_length h3
  simp [builtin, Builtin.len_, ha, hty, ← hd, run_underlying hu, MapKept.run_getObj_map h2]
  rw [← hlen]
  simp

/-- range over a map -/
def evRange (P : Program) (t : TypeId) (s : SV) (H : Heap) (nx : Nat) : Option Out :=
  match s, mapTy P t with
  | .mp n, some _ => match H.get n with
    | some ⟨_, .map es clock⟩ => some (.ptr nx 0, H.put nx (some ⟨false, .iter (some n) clock [] clock⟩), nx + 1)
    | _ => none
  | _, _ => none
theorem ok_range {t : TypeId} {x : Operand} {s : SV} (ho : o.op = .range t x) (hx : σ x = some s) (h : evRange P t s H nx = some out) : OpOK P base o σ H nx out := by
  unfold evRange at h
  split at h
  case h_2 => cases h
  rename_i n kt ht
  obtain ⟨kt, et⟩ := kt
  have hu := mapTy_under ht
  split at h
  case h_2 => cases h
  rename_i lk es clock hg
  injection h with h
  subst h
  refine ⟨by simp, dom_new _ _ _, fun ρ a w hσ hs hf => ?_⟩
  have hd := hσ x (by simp [ho, Op.operands]) _ hx
  obtain ⟨b, sz, entries, h1, h2, h3⟩ := hs.map hg
  simp only [den, h1, Option.map_some] at hd
  injection hd with hd
  obtain ⟨ρ', g1, g2, g3, g4⟩ := sat_newO (nx := nx) (o := .iter (some n) clock [] clock) (ob := .mapIter (some b) clock #[] clock) (sz := 0) hs (hf nx (Nat.le_refl _) (by simp)) ⟨some b, ⟨_, h1, rfl⟩, rfl⟩
  refine ⟨ρ', .pointer (some ⟨w.heap.size, 0, none⟩), _, .inl ?_, g1, ?_, g3, g4⟩
  · simp [execOp, ho, Instr.range, run_underlying hu, ← hd, MapKept.run_getObj_map h2]
  · simp only [den, g2, Option.map_some]

/-- the entry of a round -/
def evEntry (s : SV) (H : Heap) : Option SV :=
  match s with
  | .ptr r 0 => match H.get r with
    | some ⟨_, .iter (some m) _ seen stepped⟩ => match H.get m, seen.getLast? with
      | some ⟨_, .map es clock⟩, some b => bif Nat.beq clock stepped then (findB es b).map fun x => .tup [x.1, x.2] else none
      | _, _ => none
    | _ => none
  | _ => none
theorem Sat.iter {ρ : Env} {w : World} {r m : Nat} {lk : Bool} {since stepped : Nat} {seen : List Nat} (h : Sat base ρ H.get w) (hr : H.get r = some ⟨lk, .iter (some m) since seen stepped⟩) : ∃ b sz p, ρ r = some (b, sz) ∧ ρ m = some p ∧ w.heap[b]? = some (.mapIter (some p.1) since seen.toArray stepped) := by
  obtain ⟨q, ob, h1, h2, h3, k, ⟨p, hp, hk⟩, rfl⟩ := h.held r _ hr
  exact ⟨q.1, q.2, p, h1, hp, by rw [h3, hk]⟩
theorem ok_entry {x : Operand} {s q : SV} (ho : o.op = .entry x) (hx : σ x = some s) (h : evEntry s H = some q) : OpOK P base o σ H nx (q, H, nx) := by
  refine ok_still fun ρ a w hσ hs => ?_
  have hd := hσ x (by simp [ho, Op.operands]) s hx
  unfold evEntry at h
  split at h
  case h_2 => cases h
  rename_i r
  split at h
  case h_2 => cases h
  rename_i lk m since seen stepped hr
  split at h
  case h_2 => cases h
  rename_i lk' es clock b hm hb
  cases hc : Nat.beq clock stepped with
  | false => rw [hc] at h; cases h
  | true =>
    rw [hc] at h
    simp only [cond_true] at h
    have hcl : clock = stepped := Nat.eq_of_beq_eq_true hc
    subst hcl
    cases hf : findB es b with
    | none => rw [hf] at h; cases h
    | some y =>
      rw [hf] at h
      simp only [Option.map_some] at h
      injection h with h
      subst h
      obtain ⟨rb, rsz, p, h1, h2, h3⟩ := hs.iter hr
      obtain ⟨mb, msz, entries, g1, g2, g3⟩ := hs.map hm
      rw [h2] at g1
      injection g1 with g1
      subst g1
      simp only [den, h1, Option.map_some] at hd
      injection hd with hd
      obtain ⟨e, k1, k2, k3⟩ := findB_ok g3 hf
      refine ⟨.tuple #[e.key, e.val], ?_, by simp [den, denL, k2, k3]⟩
      have hback : (seen.toArray).back? = some b := by simpa using hb
      have hfind : entries.find? (·.born == b) = some e := by rw [← Array.find?_toList]; exact k1
      simp [execOp, ho, Instr.entry, ← hd, getObj, Sem.run, h3, g2, hback, hfind, Result.andThen]

end
end Ev
end Go.Proofs.YtekhboekiehdhaaGreatDoor
