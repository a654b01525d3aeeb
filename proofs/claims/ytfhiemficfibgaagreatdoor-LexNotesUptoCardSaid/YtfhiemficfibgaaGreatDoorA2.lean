/- A map of words: what a look-up gives, and what a store leaves. -/
import Derived.Test.YtfhiemficfibgaaGreatDoorProg
import Derived.WalkKit
import Derived.MapKept
namespace Go.Proofs.YtfhiemficfibgaaGreatDoor
open Go.RowKit

theorem beq_bytes (a b : ByteArray) : (a == b) = decide (a.data.toList = b.data.toList) := by
  have h : (a == b) = (a.data == b.data) := rfl
  rw [h, Bool.eq_iff_iff]
  simp [Array.toList_inj]

/-- Block m is a map that holds true at just these texts. -/
def WordMap (w : World) (m : Nat) (ws : List (List UInt8)) : Prop :=
  ∃ es clock, w.heap[m]? = some (.map es clock) ∧ (∀ e ∈ es.toList, ∃ k, e.key = .string k ∧ e.val = .bool true) ∧ ∀ k : ByteArray, (∃ e ∈ es.toList, e.key = .string k) ↔ k.data.toList ∈ ws

theorem findNow_words (s : ByteArray) : ∀ (es : List MapEntry) (i : Nat), (∀ e ∈ es, ∃ k, e.key = .string k ∧ e.val = .bool true) →
    (∃ j, Instr.findNow .string (.string s) es i = some (some (j, .bool true)) ∧ (∃ e ∈ es, e.key = .string s) ∧ i ≤ j ∧ ∃ e, es[j - i]? = some e ∧ e.key = .string s) ∨ (Instr.findNow .string (.string s) es i = some none ∧ ¬ ∃ e ∈ es, e.key = .string s)
  | [], i, _ => .inr ⟨rfl, by simp⟩
  | e :: es, i, h => by
    obtain ⟨k, hk, hv⟩ := h e (by simp)
    by_cases hs : s = k
    · subst hs
      refine .inl ⟨i, ?_, ⟨e, by simp, hk⟩, Nat.le_refl _, e, by simp, hk⟩
      simp [Instr.findNow, hk, Instr.sameNow, hv, beq_bytes]
    · have hne : (s == k) = false := by
        rw [beq_bytes, decide_eq_false_iff_not]
        intro hc
        apply hs
        cases s; cases k
        simp at hc
        rw [hc]
      have step : Instr.findNow .string (.string s) (e :: es) i = Instr.findNow .string (.string s) es (i + 1) := by
        simp [Instr.findNow, hk, Instr.sameNow, hne]
      rcases findNow_words s es (i + 1) (fun e he => h e (by simp [he])) with ⟨j, h1, ⟨e', he', hke⟩, hij, e2, h2, h3⟩ | ⟨h1, h2⟩
      · refine .inl ⟨j, by rw [step]; exact h1, ⟨e', by simp [he'], hke⟩, by omega, e2, ?_, h3⟩
        rw [show j - i = (j - (i + 1)) + 1 from by omega]
        simpa using h2
      · refine .inr ⟨by rw [step]; exact h1, ?_⟩
        rintro ⟨e', he', hke⟩
        rcases List.mem_cons.1 he' with rfl | he'
        · rw [hk] at hke
          injection hke with hke
          exact hs hke.symm
        · exact h2 ⟨e', he', hke⟩

theorem checkKey_string (b : Bool) (n : Nat) (s : ByteArray) (w : World) : (Instr.checkKey b (n + 1) 9 (.string s)).run Tryz.prog w = .ok () w := by
  simp [Instr.checkKey, run_underlying Tryz.underlying9]

/-- 'm[s]'. -/
theorem WordMap.lookup {w : World} {m : Nat} {ws : List (List UInt8)} (h : WordMap w m ws) (s : ByteArray) :
    (Instr.lookup 38 (.map (some m)) (.string s) false).run Tryz.prog w = .ok (.bool (decide (s.data.toList ∈ ws))) w := by
  obtain ⟨es, clock, hb, hes, hws⟩ := h
  have hck : ∀ b, (Instr.checkKey b 10000 9 (.string s)).run Tryz.prog w = .ok () w := fun b => checkKey_string b 9999 s w
  rcases findNow_words s es.toList 0 hes with ⟨j, h1, h2, _⟩ | ⟨h1, h2⟩
  · have : s.data.toList ∈ ws := (hws s).1 h2
    simp [Instr.lookup, run_underlying Tryz.underlying38, MapKept.run_getObj_map hb, hck, Instr.findKey, run_underlying Tryz.underlying9, h1, this]
  · have : ¬ s.data.toList ∈ ws := fun hc => h2 ((hws s).2 hc)
    simp [Instr.lookup, run_underlying Tryz.underlying38, MapKept.run_getObj_map hb, hck, Instr.findKey, run_underlying Tryz.underlying9, h1, this, Tryz.zeroValue4]

/-- 'm[s] = true'. -/
theorem WordMap.update {w : World} {m : Nat} {ws : List (List UInt8)} (h : WordMap w m ws) (s : ByteArray) :
    ∃ w', (Instr.mapUpdate 38 (.map (some m)) (.string s) (.bool true)).run Tryz.prog w = .ok () w' ∧ WordMap w' m (ws ++ [s.data.toList]) ∧ w.grownBy w' (some m) := by
  obtain ⟨es, clock, hb, hes, hws⟩ := h
  have hck : ∀ b, (Instr.checkKey b 10000 9 (.string s)).run Tryz.prog w = .ok () w := fun b => checkKey_string b 9999 s w
  have hlt := (Array.getElem?_eq_some_iff.1 hb).1
  have hset : ∀ (o : Obj), (setObj m o).run Tryz.prog w = .ok () { w with heap := w.heap.setIfInBounds m o } := by
    intro o
    simp [setObj, Sem.run, hb]
  have hgrown : ∀ o : Obj, w.grownBy { w with heap := w.heap.setIfInBounds m o } (some m) := fun o =>
    ⟨rfl, rfl, rfl, by simp, fun k _ hk => by
      have : m ≠ k := fun e => hk (by rw [e])
      simp [this]⟩
  rcases findNow_words s es.toList 0 hes with ⟨j, h1, h2, _, e, he, hke⟩ | ⟨h1, h2⟩
  · have hmem : s.data.toList ∈ ws := (hws s).1 h2
    have hej : es[j]? = some e := by simpa using he
    have hsame : Instr.sameBits 10000 (.string s) (.string s) = true := by simp [Instr.sameBits, beq_bytes]
    refine ⟨_, ?_, ?_, hgrown (.map (es.modify j fun e => { e with key := .string s, val := .bool true }) clock)⟩
    · simp [Instr.mapUpdate, run_underlying Tryz.underlying38, MapKept.run_getObj_map hb, hck, Instr.findKey, run_underlying Tryz.underlying9, h1, Instr.keyThatStays, hej, hke, hsame, hset]
    · refine ⟨es.modify j fun e => { e with key := .string s, val := .bool true }, clock, by simp [hlt], ?_, ?_⟩
      · intro x hx
        rw [Array.mem_toList_iff, Array.mem_iff_getElem?] at hx
        obtain ⟨i, hi⟩ := hx
        rw [Array.getElem?_modify] at hi
        split at hi
        · cases hes' : es[i]? with
          | none => simp [hes'] at hi
          | some y => simp [hes'] at hi; subst hi; exact ⟨s, rfl, rfl⟩
        · exact hes x (by rw [Array.mem_toList_iff, Array.mem_iff_getElem?]; exact ⟨i, hi⟩)
      · intro k
        rw [List.mem_append, ← hws k]
        constructor
        · rintro ⟨x, hx, hk⟩
          rw [Array.mem_toList_iff, Array.mem_iff_getElem?] at hx
          obtain ⟨i, hi⟩ := hx
          rw [Array.getElem?_modify] at hi
          split at hi
          · cases hes' : es[i]? with
            | none => simp [hes'] at hi
            | some y => simp [hes'] at hi; subst hi; simp at hk; subst hk; exact .inr (by simp)
          · exact .inl ⟨x, by rw [Array.mem_toList_iff, Array.mem_iff_getElem?]; exact ⟨i, hi⟩, hk⟩
        · have key : ∀ x ∈ es.toList, x.key = .string k → ∃ y ∈ (es.modify j fun e => { e with key := .string s, val := .bool true }).toList, y.key = .string k := by
            intro x hx hk
            rw [Array.mem_toList_iff, Array.mem_iff_getElem?] at hx
            obtain ⟨i, hi⟩ := hx
            by_cases hij : j = i
            · subst hij
              rw [hej] at hi
              injection hi with hi
              subst hi
              refine ⟨{ e with key := .string s, val := .bool true }, ?_, by simpa [hke] using hk⟩
              rw [Array.mem_toList_iff, Array.mem_iff_getElem?]
              exact ⟨j, by simp [Array.getElem?_modify, hej]⟩
            · refine ⟨x, ?_, hk⟩
              rw [Array.mem_toList_iff, Array.mem_iff_getElem?]
              exact ⟨i, by simp [Array.getElem?_modify, hij, hi]⟩
          rintro (⟨x, hx, hk⟩ | hk)
          · exact key x hx hk
          · obtain ⟨x, hx, hxk⟩ := h2
            have : k = s := by
              cases k; cases s
              simp at hk
              rw [hk]
            subst this
            exact key x hx hxk
  · refine ⟨_, ?_, ?_, hgrown (.map (es.push { key := .string s, val := .bool true, born := clock }) (clock + 1))⟩
    · simp [Instr.mapUpdate, run_underlying Tryz.underlying38, MapKept.run_getObj_map hb, hck, Instr.findKey, run_underlying Tryz.underlying9, h1, hset]
    · refine ⟨es.push { key := .string s, val := .bool true, born := clock }, clock + 1, by simp [hlt], ?_, ?_⟩
      · intro x hx
        simp at hx
        rcases hx with hx | rfl
        · exact hes x (by simpa using hx)
        · exact ⟨s, rfl, rfl⟩
      · intro k
        rw [List.mem_append, ← hws k]
        simp only [Array.toList_push, List.mem_append, List.mem_singleton]
        constructor
        · rintro ⟨x, hx | rfl, hk⟩
          · exact .inl ⟨x, hx, hk⟩
          · simp at hk; subst hk; exact .inr rfl
        · rintro (⟨x, hx, hk⟩ | hk)
          · exact ⟨x, .inl hx, hk⟩
          · have : k = s := by
              cases k; cases s
              simp at hk
              rw [hk]
            subst this
            exact ⟨_, .inr rfl, rfl⟩

theorem WordMap.keep {w w' : World} {m : Nat} {ws : List (List UInt8)} (h : WordMap w m ws) (hk : w'.heap[m]? = w.heap[m]?) : WordMap w' m ws := by
  obtain ⟨es, clock, hb, r⟩ := h
  exact ⟨es, clock, by rw [hk]; exact hb, r⟩
theorem WordMap.lt {w : World} {m : Nat} {ws : List (List UInt8)} (h : WordMap w m ws) : m < w.heap.size := by
  obtain ⟨es, clock, hb, r⟩ := h
  exact (Array.getElem?_eq_some_iff.1 hb).1
theorem WordMap.grown {w w' : World} {m B : Nat} {ws : List (List UInt8)} (h : WordMap w m ws) (hg : w.grownBy w' (some B)) (hB : m ≠ B) : WordMap w' m ws :=
  h.keep (hg.block m h.lt (fun e => hB (by injection e)))
end Go.Proofs.YtfhiemficfibgaaGreatDoor
