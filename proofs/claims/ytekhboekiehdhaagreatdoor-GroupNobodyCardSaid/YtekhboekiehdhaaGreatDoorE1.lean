/- Operations over names: each says what the machine's operation does, in every world that holds what the heap over names says. -/
import Derived.Test.YtekhboekiehdhaaGreatDoorE0
import Derived.Laws.CopyRow
import Derived.Laws.Tables
import Derived.Laws.AppendOwn
set_option linter.unusedVariables false
set_option linter.unusedSimpArgs false
namespace Go.Proofs.YtekhboekiehdhaaGreatDoor
namespace Ev
open Go.RowKit

/-- A computation that asks nothing of the world. -/
def pr {α : Type} (P : Program) : Sem α → Option α
  | .pure a => some a
  | .program k => pr P (k P)
  | .mark _ k => pr P k
  | _ => none
theorem pr_run {α : Type} {P : Program} : ∀ {s : Sem α} {a : α}, pr P s = some a → ∀ w, s.run P w = .ok a w
  | .pure b, a, h, w => by simp [pr] at h; subst h; rfl
  | .program k, a, h, w => by simp only [pr] at h; exact pr_run (s := k P) h w
  | .mark m k, a, h, w => by simp only [pr] at h; exact pr_run (s := k) h w
  | .load .., a, h, w => by simp [pr] at h
  | .store .., a, h, w => by simp [pr] at h
  | .new .., a, h, w => by simp [pr] at h
  | .shape .., a, h, w => by simp [pr] at h
  | .freeze .., a, h, w => by simp [pr] at h
  | .frozen .., a, h, w => by simp [pr] at h
  | .getObj .., a, h, w => by simp [pr] at h
  | .setObj .., a, h, w => by simp [pr] at h
  | .choose .., a, h, w => by simp [pr] at h
  | .sys .., a, h, w => by simp [pr] at h
  | .halt .., a, h, w => by simp [pr] at h

/-- A value without names. -/
def plain (s : SV) : Option Value := den (fun _ => none) s
theorem plain_den {s : SV} {v : Value} (h : plain s = some v) (ρ : Env) : den ρ s = some v := den_more (fun _ _ e => by cases e) s v h
def plainL (l : List SV) : Option (List Value) := denL (fun _ => none) l
theorem plainL_den {l : List SV} {v : List Value} (h : plainL l = some v) (ρ : Env) : denL ρ l = some v := denL_more (fun _ _ e => by cases e) l v h
def ofV1 : Value → SV
  | .agg cs => .agg (cs.toList.map .lit)
  | v => .lit v
def ofV : Value → SV
  | .agg cs => .agg (cs.toList.map .lit)
  | .tuple vs => .tup (vs.toList.map ofV1)
  | .iface t v => .ifc t (ofV1 v)
  | v => .lit v
theorem den_ofV1 (ρ : Env) (v : Value) : den ρ (ofV1 v) = some v := by
  cases v <;> first | rfl | simp [ofV1, den, denL_lits]
theorem denL_ofV1 (ρ : Env) : ∀ (l : List Value), denL ρ (l.map ofV1) = some l
  | [] => rfl
  | v :: r => by simpa using denL_cons.2 ⟨v, r, den_ofV1 ρ v, denL_ofV1 ρ r, rfl⟩
theorem den_ofV (ρ : Env) (v : Value) : den ρ (ofV v) = some v := by
  cases v <;> first | rfl | simp [ofV, den, denL_lits, denL_ofV1, den_ofV1]

abbrev Sig := Operand → Option SV
abbrev Out := SV × Heap × Nat

/-- Names come from nowhere but the new ones; what is locked stays as it is. -/
def DomOK (H H' : Nat → Option Slot) (lo hi : Nat) : Prop := ∀ x s, H' x = some s → (lo ≤ x ∧ x < hi ∧ s.lock = false) ∨ ∃ t, H x = some t ∧ t.lock = s.lock ∧ (t.lock = true → t = s)
theorem DomOK.refl (H : Nat → Option Slot) (lo hi : Nat) : DomOK H H lo hi := fun x s h => .inr ⟨s, h, rfl, fun _ => rfl⟩
theorem DomOK.trans {A B C : Nat → Option Slot} {lo mid hi : Nat} (h : DomOK A B lo mid) (k : DomOK B C mid hi) (h1 : lo ≤ mid) (h2 : mid ≤ hi) : DomOK A C lo hi := by
  intro x s hx
  rcases k x s hx with ⟨g1, g2, g3⟩ | ⟨t, g1, g2, g3⟩
  · exact .inl ⟨by omega, g2, g3⟩
  · rcases h x t g1 with ⟨k1, k2, k3⟩ | ⟨u, k1, k2, k3⟩
    · exact .inl ⟨k1, by omega, g2 ▸ k3⟩
    · refine .inr ⟨u, k1, k2.trans g2, fun hl => ?_⟩
      have := k3 hl
      subst this
      exact g3 hl
theorem dom_new (H : Heap) (nx : Nat) (o : SO) : DomOK H.get (H.put nx (some ⟨false, o⟩)).get nx (nx + 1) := by
  intro x s hx
  rw [PT.get_put] at hx
  split at hx
  · injection hx with hx
    subst hx
    exact .inl ⟨by omega, by omega, rfl⟩
  · exact .inr ⟨s, hx, rfl, fun _ => rfl⟩
theorem dom_set (H : Heap) (n : Nat) (o o' : SO) (hn : H.get n = some ⟨false, o⟩) (lo hi : Nat) : DomOK H.get (H.put n (some ⟨false, o'⟩)).get lo hi := by
  intro x s hx
  rw [PT.get_put] at hx
  split at hx
  · rename_i e
    injection hx with hx
    subst hx
    subst e
    exact .inr ⟨_, hn, rfl, fun h => by cases h⟩
  · exact .inr ⟨s, hx, rfl, fun _ => rfl⟩
theorem dom_erase (H : Heap) (n : Nat) (lo hi : Nat) : DomOK H.get (H.put n none).get lo hi := by
  intro x s hx
  rw [PT.get_put] at hx
  split at hx
  · cases hx
  · exact .inr ⟨s, hx, rfl, fun _ => rfl⟩
/-- What an operation that calls nothing comes to. -/
def OpOK (P : Program) (base : Nat) (o : Oper) (σ : Sig) (H : Heap) (nx : Nat) (out : Out) : Prop :=
  nx ≤ out.2.2 ∧ DomOK H.get out.2.1.get nx out.2.2 ∧ ∀ (ρ : Env) (a : Act) (w : World), (∀ x ∈ o.op.operands, ∀ s, σ x = some s → den ρ s = some (a.eval x)) → Sat base ρ H.get w → (∀ n, nx ≤ n → n < out.2.2 → ρ n = none) →
    ∃ ρ' v w', ((execOp a.eval o).run P w = .ok (.value v) w' ∨ (v = undef ∧ (execOp a.eval o).run P w = .ok .skip w')) ∧
      Ext ρ ρ' nx out.2.2 ∧ den ρ' out.1 = some v ∧ Sat base ρ' out.2.1.get w' ∧ Keep H.get ρ w out.2.1.get ρ' w'

/-- An operation that leaves the world alone. -/
theorem ok_still {P : Program} {base : Nat} {o : Oper} {σ : Sig} {H : Heap} {nx : Nat} {s : SV}
    (h : ∀ (ρ : Env) (a : Act) (w : World), (∀ x ∈ o.op.operands, ∀ s, σ x = some s → den ρ s = some (a.eval x)) → Sat base ρ H.get w → ∃ v, (execOp a.eval o).run P w = .ok (.value v) w ∧ den ρ s = some v) :
    OpOK P base o σ H nx (s, H, nx) :=
  ⟨Nat.le_refl _, DomOK.refl _ _ _, fun ρ a w hσ hs _ => by
    obtain ⟨v, h1, h2⟩ := h ρ a w hσ hs
    exact ⟨ρ, v, w, .inl h1, Ext.refl _ _ _, h2, hs, Keep.refl _ _ _⟩⟩

section rows
variable {base : Nat} {ρ : Env} {H : Heap} {w : World}
/-- A new row under a new name. -/
theorem sat_new {nx : Nat} {cs : List SV} {vs rest : List Value} (e : TypeId) (slack : Bool) (h : Sat base ρ H.get w) (hn : ρ nx = none) (hc : denL ρ cs = some vs) (hr : slack = false → rest = []) :
    ∃ ρ' : Env, Ext ρ ρ' nx (nx + 1) ∧ ρ' nx = some (w.heap.size, (vs ++ rest).length) ∧ Sat base ρ' (H.put nx (some ⟨false, .row cs e slack⟩)).get (w.alloc (.cells (vs ++ rest).toArray e)) ∧ Keep H.get ρ w (H.put nx (some ⟨false, .row cs e slack⟩)).get ρ' (w.alloc (.cells (vs ++ rest).toArray e)) := by
  let ρ' : Env := fun n => if n = nx then some (w.heap.size, (vs ++ rest).length) else ρ n
  have hmore : More ρ ρ' := by
    intro n x hx
    show (if n = nx then _ else ρ n) = some x
    rw [if_neg (fun e => by rw [e, hn] at hx; cases hx)]
    exact hx
  refine ⟨ρ', ⟨hmore, fun n hn' => if_neg (by omega)⟩, if_pos rfl, ⟨?_, ?_, ?_⟩, ⟨rfl, rfl, rfl, by simp, fun b hb _ => ?_, ?_⟩⟩
  · have := h.room; simp; omega
  · intro n s hs
    rw [PT.get_put] at hs
    by_cases hne : n = nx
    · rw [if_pos hne] at hs
      injection hs with hs
      subst hs
      subst hne
      exact ⟨_, _, if_pos rfl, h.room, heap_alloc_new w _, vs, rest, denL_more hmore _ _ hc, rfl, hr, rfl⟩
    · rw [if_neg hne] at hs
      obtain ⟨p, ob, h1, h2, h3, h4⟩ := h.held n s hs
      exact ⟨p, ob, hmore n p h1, h2, by rw [Below.heap_alloc w _ _ (Array.getElem?_eq_some_iff.1 h3).1]; exact h3, h4.more hmore⟩
  · intro n m s t p q hs ht hp hq hpq
    rw [PT.get_put] at hs ht
    have key : ∀ n s p, n ≠ nx → H.get n = some s → ρ' n = some p → p.1 < w.heap.size := by
      intro n s p hne hs hp
      have hp' : ρ n = some p := by
        have : ρ' n = ρ n := if_neg hne
        rw [← this]; exact hp
      exact h.lt hs hp'
    have hnx : ∀ p, ρ' nx = some p → p.1 = w.heap.size := by
      intro p hp
      have : ρ' nx = some (w.heap.size, (vs ++ rest).length) := if_pos rfl
      rw [this] at hp; injection hp with hp; rw [← hp]
    by_cases h1 : n = nx
    · by_cases h2 : m = nx
      · rw [h1, h2]
      · rw [if_neg h2] at ht
        have := key m t q h2 ht hq
        rw [h1] at hp
        have := hnx p hp
        omega
    · rw [if_neg h1] at hs
      by_cases h2 : m = nx
      · have := key n s p h1 hs hp
        rw [h2] at hq
        have := hnx q hq
        omega
      · rw [if_neg h2] at ht
        have e1 : ρ' n = ρ n := if_neg h1
        have e2 : ρ' m = ρ m := if_neg h2
        rw [e1] at hp
        rw [e2] at hq
        exact h.apart n m s t p q hs ht hp hq hpq
  · exact Below.heap_alloc w _ b hb
  · intro n s p h1 h2 h3
    rw [PT.get_put] at h1
    by_cases hne : n = nx
    · have : ρ' nx = some (w.heap.size, (vs ++ rest).length) := if_pos rfl
      rw [hne, this] at h3
      injection h3 with h3
      exact .inl (by rw [← h3]; exact Nat.le_refl _)
    · rw [if_neg hne] at h1
      have : ρ' n = ρ n := if_neg hne
      rw [this] at h3
      exact .inr ⟨n, s, p, h1, h2, h3, rfl⟩
/-- A row is written over. -/
theorem sat_set {n : Nat} {cs cs' : List SV} {vs rest vs' rest' : List Value} {e : TypeId} {slack slack' : Bool} {b sz : Nat} (h : Sat base ρ H.get w) (hn : H.get n = some ⟨false, .row cs e slack⟩)
    (hp : ρ n = some (b, sz)) (hw : w.heap[b]? = some (.cells (vs ++ rest).toArray e (0, 0))) (hc : denL ρ cs' = some vs') (hr : slack' = false → rest' = []) (hsz : (vs' ++ rest').length = sz) :
    Sat base ρ (H.put n (some ⟨false, .row cs' e slack'⟩)).get (w.setRow b (vs' ++ rest').toArray) ∧ Keep H.get ρ w (H.put n (some ⟨false, .row cs' e slack'⟩)).get ρ (w.setRow b (vs' ++ rest').toArray) := by
  refine ⟨⟨?_, ?_, ?_⟩, ⟨rfl, rfl, rfl, by simp, fun k _ hk => setRow_other w b k _ (fun e => hk n _ _ hn rfl hp e.symm), ?_⟩⟩
  · simpa using h.room
  · intro m s hs
    rw [PT.get_put] at hs
    by_cases hne : m = n
    · rw [if_pos hne] at hs
      injection hs with hs
      subst hs
      subst hne
      obtain ⟨p, ob, h1, h2, h3, h4⟩ := h.held m _ hn
      rw [hp] at h1; injection h1 with h1; subst h1
      exact ⟨_, _, hp, h2, setRow_heap w b _ _ e _ hw, vs', rest', hc, rfl, hr, hsz.symm⟩
    · rw [if_neg hne] at hs
      obtain ⟨p, ob, h1, h2, h3, h4⟩ := h.held m s hs
      refine ⟨p, ob, h1, h2, ?_, h4⟩
      rw [setRow_other w b p.1 _ (fun e => hne (h.apart m n _ _ _ _ hs hn h1 hp e))]
      exact h3
  · intro i j s t p q hs ht hpi hq hpq
    rw [PT.get_put] at hs ht
    have hi : ∃ s', H.get i = some s' := by
      by_cases e : i = n
      · exact ⟨_, e ▸ hn⟩
      · rw [if_neg e] at hs; exact ⟨_, hs⟩
    have hj : ∃ s', H.get j = some s' := by
      by_cases e : j = n
      · exact ⟨_, e ▸ hn⟩
      · rw [if_neg e] at ht; exact ⟨_, ht⟩
    obtain ⟨s', hs'⟩ := hi
    obtain ⟨t', ht'⟩ := hj
    exact h.apart i j s' t' p q hs' ht' hpi hq hpq
  · intro i s p h1 h2 h3
    rw [PT.get_put] at h1
    by_cases e : i = n
    · exact .inr ⟨n, _, p, hn, rfl, e ▸ h3, rfl⟩
    · rw [if_neg e] at h1
      exact .inr ⟨i, s, p, h1, h2, h3, rfl⟩
/-- A row as the world has it. -/
theorem Sat.row {n : Nat} {k : Bool} {cs : List SV} {e : TypeId} {slack : Bool} (h : Sat base ρ H.get w) (hn : H.get n = some ⟨k, .row cs e slack⟩) :
    ∃ b vs rest, ρ n = some (b, (vs ++ rest).length) ∧ w.heap[b]? = some (.cells (vs ++ rest).toArray e (0, 0)) ∧ denL ρ cs = some vs ∧ (slack = false → rest = []) := by
  obtain ⟨p, ob, h1, h2, h3, vs, rest, h4, h5, h6, h7⟩ := h.held n _ hn
  obtain ⟨b, sz⟩ := p
  simp only at h7
  subst h7
  subst h5
  exact ⟨b, vs, rest, h1, h3, h4, h6⟩
end rows
theorem cell_of {w : World} {b : Nat} {c : Array Value} {e : TypeId} {f : Nat × Nat} (h : w.heap[b]? = some (.cells c e f)) (o : Nat) : w.cell? ⟨b, o, none⟩ = c[o]? := by simp [World.cell?, h]

def szOf (P : Program) (t : TypeId) : Option Nat := (P.info? t).map (·.size)
def zeroOf (P : Program) (t : TypeId) : Option Value := (P.info? t).bind (·.zero)
def aggB (P : Program) (t : TypeId) : Option Bool :=
  match P.underlying t with
  | some (.struct _) => some true
  | some (.array _ _) => some true
  | some _ => some false
  | none => none
theorem run_size {P : Program} {t : TypeId} {n : Nat} (h : szOf P t = some n) (w : World) : (sizeOf t).run P w = .ok n w := by
  unfold szOf at h
  cases hi : P.info? t with
  | none => simp [hi] at h
  | some i => simp [hi] at h; simp [sizeOf, typeInfo, hi, h]
theorem run_zero {P : Program} {t : TypeId} {v : Value} (h : zeroOf P t = some v) (w : World) : (zeroValue t).run P w = .ok v w := by
  unfold zeroOf at h
  cases hi : P.info? t with
  | none => simp [hi] at h
  | some i => simp [hi] at h; simp [zeroValue, typeInfo, hi, h]
theorem run_agg {P : Program} {t : TypeId} {b : Bool} (h : aggB P t = some b) (w : World) : (isAgg t).run P w = .ok b w := by
  unfold aggB at h
  cases hu : P.underlying t with
  | none => simp [hu] at h
  | some d =>
    simp only [isAgg, Sem.run_bind, run_underlying hu, Result.andThen_ok]
    cases d <;> simp [hu] at h <;> subst h <;> rfl

/-- alloc -/
def evAlloc (P : Program) (e : TypeId) (H : Heap) (nx : Nat) : Option Out :=
  match zeroOf P e with
  | some z => some (.ptr nx 0, H.put nx (some ⟨false, .row (z.cells.toList.map .lit) e false⟩), nx + 1)
  | none => none
theorem ok_alloc {P : Program} {base : Nat} {o : Oper} {σ : Sig} {H : Heap} {nx : Nat} {out : Out} {e : TypeId} (ho : o.op = .alloc e) (h : evAlloc P e H nx = some out) : OpOK P base o σ H nx out := by
  unfold evAlloc at h
  split at h
  · rename_i z hz
    injection h with h
    subst h
    refine ⟨by simp, dom_new _ _ _, fun ρ a w hσ hs hf => ?_⟩
    obtain ⟨ρ', h1, h2, h3, h4⟩ := sat_new (nx := nx) (rest := []) e false hs (hf nx (Nat.le_refl _) (by simp)) (denL_lits z.cells.toList) (fun _ => rfl)
    refine ⟨ρ', .pointer (some ⟨w.heap.size, 0, none⟩), _, .inl ?_, h1, ?_, h3, h4⟩
    · simp [execOp, ho, Instr.alloc, run_zero hz, newVar, newRow]
    · simp only [den, h2, Option.map_some]
  · cases h

/-- box -/
def evBox (e : TypeId) (s : SV) (H : Heap) (nx : Nat) : Option Out :=
  bif s.cells.all SV.one then some (.ptr nx 0, H.put nx (some ⟨false, .row s.cells e false⟩), nx + 1) else none
theorem ok_box {P : Program} {base : Nat} {o : Oper} {σ : Sig} {H : Heap} {nx : Nat} {out : Out} {e : TypeId} {x : Operand} {s : SV} (ho : o.op = .box e x) (hx : σ x = some s) (h : evBox e s H nx = some out) : OpOK P base o σ H nx out := by
  unfold evBox at h
  cases hc : s.cells.all SV.one with
  | false => simp [hc] at h
  | true =>
    simp only [hc, cond_true] at h
    injection h with h
    subst h
    refine ⟨by simp, dom_new _ _ _, fun ρ a w hσ hs hf => ?_⟩
    have hd := hσ x (by simp [ho, Op.operands]) s hx
    obtain ⟨hd1, hd2⟩ := den_cells hc hd
    obtain ⟨ρ', h1, h2, h3, h4⟩ := sat_new (nx := nx) (rest := []) e false hs (hf nx (Nat.le_refl _) (by simp)) hd1 (fun _ => rfl)
    refine ⟨ρ', .pointer (some ⟨w.heap.size, 0, none⟩), _, .inl ?_, h1, ?_, h3, h4⟩
    · simp [execOp, ho, Instr.box, newVar, newRow]
    · simp only [den, h2, Option.map_some]

/-- load -/
def loadS (P : Program) (t : TypeId) (cs : List SV) (off : Nat) : Option SV :=
  match aggB P t with
  | some true => match szOf P t with
    | some n => bif Nat.ble (off + n) cs.length then some (.agg ((cs.drop off).take n)) else none
    | none => none
  | some false => cs[off]?
  | none => none
def evLoad (P : Program) (t : TypeId) (s : SV) (H : Heap) (nx : Nat) : Option Out :=
  match s with
  | .ptr n off => match H.get n with
    | some ⟨_, .row cs _ _⟩ => (loadS P t cs off).map fun r => (r, H, nx)
    | _ => none
  | _ => none
theorem ble_true {a b : Nat} (h : Nat.ble a b = true) : a ≤ b := Nat.le_of_ble_eq_true h
theorem run_loadVar {P : Program} {t : TypeId} {cs : List SV} {off : Nat} {r : SV} {ρ : Env} {w : World} {b : Nat} {vs rest : List Value} {e : TypeId} {f : Nat × Nat} (h : loadS P t cs off = some r) (hd : denL ρ cs = some vs)
    (hw : w.heap[b]? = some (.cells (vs ++ rest).toArray e f)) : ∃ v, (loadVar t ⟨b, off, none⟩).run P w = .ok v w ∧ den ρ r = some v := by
  unfold loadS at h
  have hlen := denL_length hd
  have hcell : ∀ o v, vs[o]? = some v → w.cell? ⟨b, o, none⟩ = some v := by
    intro o v hv
    rw [cell_of hw]
    have : o < vs.length := (List.getElem?_eq_some_iff.1 hv).1
    simp [List.getElem?_append_left this, hv]
  split at h
  · rename_i ha
    split at h
    · rename_i n hn
      cases hb : Nat.ble (off + n) cs.length with
      | false => simp [hb] at h
      | true =>
        simp only [hb, cond_true] at h
        injection h with h
        subst h
        have hle := ble_true hb
        have hd2 := denL_take n (denL_drop off hd)
        have hl2 : ((vs.drop off).take n).length = n := by simp; omega
        have hrun := run_loadCells_list (P := P) w ⟨b, off, none⟩ ((vs.drop off).take n) (fun j v hj => by
          rw [Addr.add_lit]
          apply hcell
          have hjn : j < n := by
            have := (List.getElem?_eq_some_iff.1 hj).1
            omega
          rw [List.getElem?_take_of_lt hjn, List.getElem?_drop] at hj
          exact hj)
        rw [hl2] at hrun
        refine ⟨.agg ((vs.drop off).take n).toArray, ?_, by simp [den, hd2]⟩
        simp [loadVar, run_agg ha, run_size hn, hrun]
    · cases h
  · rename_i ha
    obtain ⟨v, hv, hdv⟩ := denL_get hd h
    refine ⟨v, ?_, hdv⟩
    simp [loadVar, run_agg ha, hcell off v hv]
  · cases h
theorem ok_load {P : Program} {base : Nat} {o : Oper} {σ : Sig} {H : Heap} {nx : Nat} {out : Out} {t : TypeId} {x : Operand} {s : SV} (ho : o.op = .load t x) (hx : σ x = some s) (h : evLoad P t s H nx = some out) : OpOK P base o σ H nx out := by
  unfold evLoad at h
  split at h
  · rename_i n off
    split at h
    · rename_i k cs e slack hg
      cases hl : loadS P t cs off with
      | none => simp [hl] at h
      | some r =>
        simp [hl] at h
        subst h
        refine ok_still fun ρ a w hσ hs => ?_
        have hd := hσ x (by simp [ho, Op.operands]) _ hx
        obtain ⟨b, vs, rest, h1, h2, h3, h4⟩ := hs.row hg
        simp only [den, h1, Option.map_some] at hd
        injection hd with hd
        obtain ⟨v, hv, hdv⟩ := run_loadVar hl h3 h2
        refine ⟨v, ?_, hdv⟩
        simp [execOp, ho, Instr.loadAt, ← hd, Instr.sureAddr, hv]
    · cases h
  · cases h

/-- store -/
def evStore (P : Program) (t : TypeId) (p s : SV) (H : Heap) (nx : Nat) : Option Out :=
  match p with
  | .ptr n off => match H.get n with
    | some ⟨false, .row cs e slack⟩ => match szOf P t with
      | some k => bif s.cells.all SV.one && Nat.beq s.cells.length k && Nat.ble (off + k) cs.length then
          some (.lit undef, H.put n (some ⟨false, .row (cs.take off ++ s.cells ++ cs.drop (off + k)) e slack⟩), nx)
        else none
      | none => none
    | _ => none
  | _ => none
theorem run_storeVar {P : Program} {t : TypeId} {k off b : Nat} {v : Value} {cur : Array Value} {e : TypeId} {w : World} (hk : szOf P t = some k) (hl : v.cells.size = k) (h1 : ∀ u ∈ v.cells.toList, u.oneCell' = true) (hfit : off + k ≤ cur.size)
    (hw : w.heap[b]? = some (.cells cur e (0, 0))) : (storeVar t ⟨b, off, none⟩ v).run P w = .ok () (w.setRow b (cur.toList.take off ++ v.cells.toList ++ cur.toList.drop (off + k)).toArray) := by
  have hr := run_storeCells_at P b off e v.cells.toList 0 cur w hw (by simp [hl]; omega) h1
  simp only [Nat.add_zero, Array.length_toList, hl] at hr
  simp [storeVar, run_size hk, hl, hr]
theorem ok_store {P : Program} {base : Nat} {o : Oper} {σ : Sig} {H : Heap} {nx : Nat} {out : Out} {t : TypeId} {x y : Operand} {p s : SV} (ho : o.op = .store t x y) (hx : σ x = some p) (hy : σ y = some s) (h : evStore P t p s H nx = some out) : OpOK P base o σ H nx out := by
  unfold evStore at h
  split at h
  · rename_i n off
    split at h
    · rename_i cs e slack hg
      split at h
      · rename_i k hk
        cases hc : (s.cells.all SV.one && Nat.beq s.cells.length k && Nat.ble (off + k) cs.length) with
        | false => simp [hc] at h
        | true =>
          simp only [hc, cond_true] at h
          injection h with h
          subst h
          simp only [Bool.and_eq_true] at hc
          obtain ⟨⟨hc1, hc2⟩, hc3⟩ := hc
          have hle := ble_true hc3
          have hlk : s.cells.length = k := Nat.eq_of_beq_eq_true hc2
          refine ⟨Nat.le_refl _, dom_set H n _ _ hg _ _, fun ρ a w hσ hs hf => ?_⟩
          have hd := hσ x (by simp [ho, Op.operands]) _ hx
          have hds := hσ y (by simp [ho, Op.operands]) _ hy
          obtain ⟨hd1, hd2⟩ := den_cells hc1 hds
          obtain ⟨b, vs, rest, h1, h2, h3, h4⟩ := hs.row hg
          simp only [den, h1, Option.map_some] at hd
          injection hd with hd
          have hlen := denL_length h3
          have hvl : (a.eval y).cells.size = k := by have := denL_length hd1; simp at this; omega
          have hrun := run_storeVar (off := off) hk hvl hd2 (by simp; omega) h2
          have hlist : (vs ++ rest).take off ++ (a.eval y).cells.toList ++ (vs ++ rest).drop (off + k) = (vs.take off ++ (a.eval y).cells.toList ++ vs.drop (off + k)) ++ rest := by
            rw [List.take_append_of_le_length (by omega), List.drop_append_of_le_length (by omega)]
            simp
          have hrun' : (storeVar t ⟨b, off, none⟩ (a.eval y)).run P w = .ok () (w.setRow b ((vs.take off ++ (a.eval y).cells.toList ++ vs.drop (off + k)) ++ rest).toArray) := by
            rw [hrun, ← hlist]
          obtain ⟨h5, h6⟩ := sat_set hs hg h1 h2 (denL_append (denL_append (denL_take off h3) hd1) (denL_drop (off + k) h3)) h4 (by simp; omega)
          refine ⟨ρ, undef, _, .inr ⟨rfl, ?_⟩, Ext.refl _ _ _, by simp [den], h5, h6⟩
          simp [execOp, ho, Instr.storeAt, ← hd, Instr.sureAddr, hrun']
      · cases h
    · cases h
  · cases h
end Ev
end Go.Proofs.YtekhboekiehdhaaGreatDoor
