/- Code and calls over names, with several ways on where the machine chooses (the next entry of a map): what the evaluator answers, the machine does, in every world. -/
import Derived.Test.YtekhboekiehdhaaGreatDoorE9
import Derived.Scope
set_option linter.unusedVariables false
set_option linter.unusedSimpArgs false
namespace Go.Proofs.YtekhboekiehdhaaGreatDoor
namespace Ev
open Go.RowKit
open Go.ChangeMaps (setBlock)

theorem Ext.wider {ρ ρ' : Env} {lo hi hi' : Nat} (h : Ext ρ ρ' lo hi) (k : hi ≤ hi') : Ext ρ ρ' lo hi' := ⟨h.more, fun n hn => h.off n (by omega)⟩
theorem DomOK.wider {H H' : Nat → Option Slot} {lo hi hi' : Nat} (h : DomOK H H' lo hi) (k : hi ≤ hi') : DomOK H H' lo hi' := fun x s e => by
  rcases h x s e with ⟨h1, h2, h3⟩ | h
  · exact .inl ⟨h1, by omega, h3⟩
  · exact .inr h

/-- Outcomes, and the first name that none of them has. -/
abbrev Outs := List Out × Nat
def BodyOKM (P : Program) (base : Nat) (f : FuncId) (args : List SV) (H : Heap) (nx : Nat) (r : Outs) : Prop :=
  nx ≤ r.2 ∧ (∀ out ∈ r.1, nx ≤ out.2.2 ∧ out.2.2 ≤ r.2 ∧ DomOK H.get out.2.1.get nx out.2.2) ∧ ∀ (ρ : Env) (vals : List Value) (w : World), denL ρ args = some vals → Sat base ρ H.get w → (∀ n, nx ≤ n → n < r.2 → ρ n = none) →
    Calls P f vals.toArray w fun e w' => ∃ out ∈ r.1, ∃ ρ' v, e = .returned v ∧ Ext ρ ρ' nx out.2.2 ∧ den ρ' out.1 = some v ∧ Sat base ρ' out.2.1.get w' ∧ Keep H.get ρ w out.2.1.get ρ' w'
def CallOKM (P : Program) (base : Nat) (f : FuncId) (args : List SV) (H : Heap) (nx : Nat) (r : Outs) : Prop :=
  nx ≤ r.2 ∧ (∀ out ∈ r.1, nx ≤ out.2.2 ∧ out.2.2 ≤ r.2 ∧ DomOK H.get out.2.1.get nx out.2.2) ∧ ∀ (ρ : Env) (vals : List Value) (w : World), denL ρ args = some vals → Sat base ρ H.get w → (∀ n, nx ≤ n → n < r.2 → ρ n = none) →
    ((callFunc f vals.toArray).run P w = .ok (.enter f vals.toArray) w ∧ Calls P f vals.toArray w fun e w' => ∃ out ∈ r.1, ∃ ρ' v, e = .returned v ∧ Ext ρ ρ' nx out.2.2 ∧ den ρ' out.1 = some v ∧ Sat base ρ' out.2.1.get w' ∧ Keep H.get ρ w out.2.1.get ρ' w') ∨
    (∃ out ∈ r.1, ∃ ρ' v w', (callFunc f vals.toArray).run P w = .ok (.value v) w' ∧ Ext ρ ρ' nx out.2.2 ∧ den ρ' out.1 = some v ∧ Sat base ρ' out.2.1.get w' ∧ Keep H.get ρ w out.2.1.get ρ' w')
def StepOKM (P : Program) (base : Nat) (o : Oper) (σ : Sig) (H : Heap) (nx : Nat) (r : Outs) : Prop :=
  nx ≤ r.2 ∧ (∀ out ∈ r.1, nx ≤ out.2.2 ∧ out.2.2 ≤ r.2 ∧ DomOK H.get out.2.1.get nx out.2.2) ∧ ∀ (ρ : Env) (a : Act) (w : World) (K : Act → World → Prop) (Q : Exit → Act → World → Prop), (∀ x ∈ o.op.operands, ∀ s, σ x = some s → den ρ s = some (a.eval x)) → Sat base ρ H.get w → (∀ n, nx ≤ n → n < r.2 → ρ n = none) →
    (∀ out ∈ r.1, ∀ ρ' v w', Ext ρ ρ' nx out.2.2 → den ρ' out.1 = some v → Sat base ρ' out.2.1.get w' → Keep H.get ρ w out.2.1.get ρ' w' → K (a.put o.dst v) w') → o.wp P a w K Q
abbrev CallerM := FuncId → List SV → Heap → Nat → Option Outs
/-- A caller where just one way on is asked for. -/
def single (c : CallerM) : Caller := fun k args H nx => match c k args H nx with
  | some ([out], hi) => some (out.1, out.2.1, hi)
  | _ => none
theorem single_ok {P : Program} {base : Nat} {c : CallerM} (h : ∀ k args H nx r, c k args H nx = some r → CallOKM P base k args H nx r) : ∀ k args H nx out, single c k args H nx = some out → CallOK P base k args H nx out := by
  intro k args H nx out he
  unfold single at he
  split at he
  · rename_i o hi hc
    injection he with he
    subst he
    obtain ⟨h1, h2, h3⟩ := h k args H nx _ hc
    obtain ⟨b1, b2, b3⟩ := h2 o (by simp)
    simp only at h1 b2 h3
    refine ⟨h1, b3.wider b2, fun ρ vals w hd hs hf => ?_⟩
    rcases h3 ρ vals w hd hs hf with ⟨g1, g2⟩ | ⟨out, hm, ρ', v, w', g1, g2, g3, g4, g5⟩
    · refine .inl ⟨g1, g2.mono ?_⟩
      rintro e w' ⟨out, hm, ρ', v, rfl, k1, k2, k3, k4⟩
      simp at hm
      subst hm
      exact ⟨ρ', v, rfl, k1.wider b2, k2, k3, k4⟩
    · simp at hm
      subst hm
      exact .inr ⟨ρ', v, w', g1, g2.wider b2, g3, g4, g5⟩
  · cases he
def lift (r : Option Out) : Option Outs := match r with
  | some out => some ([out], out.2.2)
  | none => none
theorem stepM_of {P : Program} {base : Nat} {o : Oper} {σ : Sig} {H : Heap} {nx : Nat} {out : Out} (h : StepOK P base o σ H nx out) : StepOKM P base o σ H nx ([out], out.2.2) :=
  ⟨h.1, fun q hq => by simp at hq; subst hq; exact ⟨h.1, Nat.le_refl _, h.2.1⟩, fun ρ a w K Q h1 h2 h3 hK => h.2.2 ρ a w K Q h1 h2 h3 (hK out (by simp))⟩

/-- The next entry of a map: whichever. -/
def evNext (s : SV) (H : Heap) (nx : Nat) : Option Outs :=
  match s with
  | .ptr r 0 => match H.get r with
    | some ⟨false, .iter (some m) since seen stepped⟩ => match H.get m with
      | some ⟨_, .map es clock⟩ => bif es.all (fun e => Nat.blt e.2.2 since) && Nat.ble since stepped then
          match es.filter (fun e => !seen.any (fun b => Nat.beq b e.2.2)) with
          | [] => some ([(.tup [.lit (.bool false)], H, nx)], nx)
          | x :: l => some ((x :: l).map (fun e => (.tup [.lit (.bool true), e.1, e.2.1], H.put r (some ⟨false, .iter (some m) since (seen ++ [e.2.2]) clock⟩), nx)), nx)
        else none
      | _ => none
    | _ => none
  | _ => none
theorem seen_any (seen : List Nat) (b : Nat) : seen.any (fun x => Nat.beq x b) = seen.toArray.contains b := by
  rw [Bool.eq_iff_iff]
  simp only [List.any_eq_true, List.contains_toArray, List.contains_iff_mem]
  constructor
  · rintro ⟨x, hx, h⟩
    exact (Nat.eq_of_beq_eq_true h) ▸ hx
  · intro h
    exact ⟨b, h, by simp⟩
theorem ok_next {P : Program} {base : Nat} {o : Oper} {σ : Sig} {H : Heap} {nx : Nat} {r : Outs} {x : Operand} {s : SV} (ho : o.op = .next x false) (hx : σ x = some s) (h : evNext s H nx = some r) : StepOKM P base o σ H nx r := by
  unfold evNext at h
  split at h
  case h_2 => cases h
  rename_i rn
  split at h
  case h_2 => cases h
  rename_i m since seen stepped hr
  split at h
  case h_2 => cases h
  rename_i lk es clock hm
  cases hc : (es.all (fun e => Nat.blt e.2.2 since) && Nat.ble since stepped) with
  | false => rw [hc] at h; cases h
  | true =>
    rw [hc] at h
    simp only [cond_true] at h
    simp only [Bool.and_eq_true] at hc
    obtain ⟨hc1, hc2⟩ := hc
    have hsc := ble_true hc2
    -- what the run does
    have run : ∀ (ρ : Env) (a : Act) (w : World), (∀ x ∈ o.op.operands, ∀ s, σ x = some s → den ρ s = some (a.eval x)) → Sat base ρ H.get w →
        ((∀ e ∈ es, seen.any (fun b => Nat.beq b e.2.2) = true) ∧ (execOp a.eval o).run P w = .ok (.value (.tuple #[.bool false])) w) ∨
        ∃ y ∈ es, seen.any (fun b => Nat.beq b y.2.2) = false ∧ ∃ v w', (execOp a.eval o).run P w = .ok (.value v) w' ∧ den ρ (.tup [.lit (.bool true), y.1, y.2.1]) = some v ∧
          Sat base ρ (H.put rn (some ⟨false, .iter (some m) since (seen ++ [y.2.2]) clock⟩)).get w' ∧ Keep H.get ρ w (H.put rn (some ⟨false, .iter (some m) since (seen ++ [y.2.2]) clock⟩)).get ρ w' := by
      intro ρ a w hσ hs
      have hd := hσ x (by simp [ho, Op.operands]) _ hx
      obtain ⟨rb, rsz, p, h1, h2, h3⟩ := hs.iter hr
      obtain ⟨mb, msz, entries, g1, g2, g3⟩ := hs.map hm
      rw [h2] at g1
      injection g1 with g1
      subst g1
      simp only [den, h1, Option.map_some] at hd
      injection hd with hd
      have hold : ∀ e ∈ entries.toList, e.born < since := by
        intro e he
        obtain ⟨y, hy, _, _, hb⟩ := denE_mem g3 he
        have := List.all_eq_true.1 hc1 y hy
        rw [← hb]
        exact ble_true this
      rcases run_next_at (P := P) w o.type rb mb since stepped seen.toArray entries clock h3 g2 hold hsc with ⟨k1, k2⟩ | ⟨e, he, w1, hw1, k2⟩
      · refine .inl ⟨fun y hy => ?_, ?_⟩
        · obtain ⟨e, he, hb⟩ := denE_mem' g3 hy
          cases hsn : seen.any (fun b => Nat.beq b y.2.2) with
          | true => rfl
          | false =>
            rw [seen_any, ← hb] at hsn
            have hmem : e ∈ leftOf entries seen.toArray := by
              unfold leftOf
              rw [Array.mem_filter]
              exact ⟨by simpa using he, by rw [hsn]; rfl⟩
            have := Array.size_pos_of_mem hmem
            omega
        · simp [execOp, ho, ← hd, k2]
      · have hmem : e ∈ leftOf entries seen.toArray := by simpa using he
        unfold leftOf at hmem
        rw [Array.mem_filter] at hmem
        obtain ⟨m1, m2⟩ := hmem
        obtain ⟨y, hy, d1, d2, d3⟩ := denE_mem g3 (by simpa using m1 : e ∈ entries.toList)
        have hs1 : Sat base ρ H.get w1 := by rcases hw1 with rfl | rfl <;> exact ⟨hs.room, hs.held, hs.apart⟩
        have hk1 : Keep H.get ρ w H.get ρ w1 := by rcases hw1 with rfl | rfl <;> exact ⟨rfl, rfl, rfl, Nat.le_refl _, fun _ _ _ => rfl, fun n s p h1 h2 h3 => .inr ⟨n, s, p, h1, h2, h3, rfl⟩⟩
        obtain ⟨q1, q2⟩ := sat_setO (o' := .iter (some m) since (seen ++ [y.2.2]) clock) (ob' := .mapIter (some mb) since (seen.toArray.push e.born) clock) hs1 hr h1 ⟨some mb, ⟨_, h2, rfl⟩, by rw [d3]; simp⟩
        refine .inr ⟨y, hy, ?_, .tuple #[.bool true, e.key, e.val], _, ?_, by simp [den, denL, d1, d2], q1, hk1.trans q2⟩
        · rw [seen_any, d3]
          simpa using m2
        · simp [execOp, ho, ← hd, k2]
    split at h
    · rename_i hnil
      injection h with h
      subst h
      refine ⟨Nat.le_refl _, fun q hq => by simp at hq; subst hq; exact ⟨Nat.le_refl _, Nat.le_refl _, DomOK.refl _ _ _⟩, fun ρ a w K Q hσ hs hf hK => ?_⟩
      unfold Oper.wp
      rcases run ρ a w hσ hs with ⟨_, k2⟩ | ⟨y, hy, hn, _⟩
      · rw [k2]
        exact hK (.tup [.lit (.bool false)], H, nx) (List.mem_singleton.2 rfl) ρ _ w (Ext.refl _ _ _) rfl hs (Keep.refl _ _ _)
      · have : y ∈ es.filter (fun e => !seen.any (fun b => Nat.beq b e.2.2)) := List.mem_filter.2 ⟨hy, by rw [hn]; rfl⟩
        rw [hnil] at this
        cases this
    · rename_i z l hcons
      injection h with h
      subst h
      refine ⟨Nat.le_refl _, fun q hq => ?_, fun ρ a w K Q hσ hs hf hK => ?_⟩
      · obtain ⟨e, he, rfl⟩ := List.mem_map.1 hq
        exact ⟨Nat.le_refl _, Nat.le_refl _, dom_set H rn _ _ hr _ _⟩
      · unfold Oper.wp
        rcases run ρ a w hσ hs with ⟨k1, _⟩ | ⟨y, hy, hn, v, w', k1, k2, k3, k4⟩
        · have : z ∈ es.filter (fun e => !seen.any (fun b => Nat.beq b e.2.2)) := by rw [hcons]; simp
          obtain ⟨q1, q2⟩ := List.mem_filter.1 this
          rw [k1 z q1] at q2
          cases q2
        · rw [k1]
          have hmem : y ∈ z :: l := by rw [← hcons]; exact List.mem_filter.2 ⟨hy, by rw [hn]; rfl⟩
          exact hK _ (List.mem_map.2 ⟨y, hmem, rfl⟩) ρ v w' (Ext.refl _ _ _) k2 k3 k4

def evOperM (P : Program) (call : CallerM) (o : Oper) (σ : Sig) (H : Heap) (nx : Nat) : Option Outs :=
  match o.op with
  | .call c => match c.callee with
    | .builtin b => lift (evBuiltin P b c o.type σ H nx)
    | _ => match evCallee P c σ with
      | some (k, args) => call k args H nx
      | none => none
  | .next x false => match σ x with
    | some s => evNext s H nx
    | none => none
  | _ => lift (evOp P o σ H nx)
theorem lift_some {r : Option Out} {q : Outs} (h : lift r = some q) : ∃ out, r = some out ∧ q = ([out], out.2.2) := by
  unfold lift at h
  split at h
  · injection h with h; exact ⟨_, rfl, h.symm⟩
  · cases h
theorem operM_ok {P : Program} {base : Nat} {o : Oper} {σ : Sig} {H : Heap} {nx : Nat} {r : Outs} {call : CallerM} (hcall : ∀ k args H nx r, call k args H nx = some r → CallOKM P base k args H nx r) (h : evOperM P call o σ H nx = some r) : StepOKM P base o σ H nx r := by
  unfold evOperM at h
  split at h
  · rename_i c ho
    split at h
    · rename_i b hb
      obtain ⟨out, h1, rfl⟩ := lift_some h
      exact stepM_of (step_of_op (ok_op (by simp only [evOp, ho, hb]; exact h1)))
    · split at h
      · rename_i k args hk
        obtain ⟨h1, hdm, h2⟩ := hcall k args H nx r h
        refine ⟨h1, hdm, fun ρ a w K Q hσ hs hf hK => ?_⟩
        obtain ⟨vals, hv, hd⟩ := callee_run ho hk hσ w
        unfold Oper.wp
        rcases h2 ρ vals w hd hs hf with ⟨g1, g2⟩ | ⟨out, hm, ρ', v, w', g1, g2, g3, g4, g5⟩
        · rw [hv, g1, Oper.upon_enter]
          refine g2.mono ?_
          rintro e w' ⟨out, hm, ρ', v, rfl, g1, g2, g3, g4⟩
          exact hK out hm ρ' v w' g1 g2 g3 g4
        · rw [hv, g1]
          exact hK out hm ρ' v w' g2 g3 g4 g5
      · cases h
  · rename_i x ho
    split at h
    · rename_i s hx
      exact ok_next ho hx h
    · cases h
  · obtain ⟨out, h1, rfl⟩ := lift_some h
    exact stepM_of (step_of_op (ok_op h1))

/-- How a piece of code is left. -/
inductive SExit where
  | normal
  | leave (id : Nat)
  | ret
  | jump (l : Nat)
def SExit.den : SExit → Exit
  | .normal => .normal
  | .leave id => .exit id
  | .ret => .ret
  | .jump l => .goto l
abbrev Way := SExit × St
abbrev Ways := List Way × Nat
def bindM {α : Type} (hi : Nat) (f : α → Option Ways) : List α → Option Ways
  | [] => some ([], hi)
  | a :: r => match f a with
    | some (l, h) => match bindM hi f r with
      | some (m, k) => some (l ++ m, bif Nat.ble h k then k else h)
      | none => none
    | none => none
theorem bindM_spec {α : Type} {hi : Nat} {f : α → Option Ways} : ∀ {l : List α} {r : Ways}, bindM hi f l = some r → hi ≤ r.2 ∧ (∀ a ∈ l, ∃ q, f a = some q ∧ q.2 ≤ r.2 ∧ ∀ x ∈ q.1, x ∈ r.1) ∧ ∀ x ∈ r.1, ∃ a ∈ l, ∃ q, f a = some q ∧ q.2 ≤ r.2 ∧ x ∈ q.1
  | [], r, h => by
    simp only [bindM] at h
    injection h with h
    subst h
    exact ⟨Nat.le_refl _, (fun a ha => by cases ha), (fun x hx => by cases hx)⟩
  | a :: r, q, h => by
    simp only [bindM] at h
    split at h
    case h_2 => cases h
    rename_i l g hf
    split at h
    case h_2 => cases h
    rename_i m k hb
    injection h with h
    obtain ⟨i1, i2, i3⟩ := bindM_spec hb
    have hgk : g ≤ (bif Nat.ble g k then k else g) ∧ k ≤ (bif Nat.ble g k then k else g) := by
      cases hc : Nat.ble g k with
      | true => exact ⟨ble_true hc, Nat.le_refl _⟩
      | false =>
        have : ¬ g ≤ k := fun e => by rw [Nat.ble_eq_true_of_le e] at hc; cases hc
        simp only [cond_false]
        omega
    subst h
    simp only at i1 i2 i3 ⊢
    refine ⟨Nat.le_trans i1 hgk.2, fun b hb => ?_, fun x hx => ?_⟩
    · rcases List.mem_cons.1 hb with rfl | hb
      · exact ⟨_, hf, hgk.1, fun x hx => List.mem_append.2 (.inl hx)⟩
      · obtain ⟨q, h1, h2, h3⟩ := i2 b hb
        exact ⟨q, h1, Nat.le_trans h2 hgk.2, fun x hx => List.mem_append.2 (.inr (h3 x hx))⟩
    · rcases List.mem_append.1 hx with hx | hx
      · exact ⟨a, by simp, _, hf, hgk.1, hx⟩
      · obtain ⟨b, hb, q, h1, h2, h3⟩ := i3 x hx
        exact ⟨b, by simp [hb], q, h1, Nat.le_trans h2 hgk.2, h3⟩

section
variable {P : Program} {base : Nat} {call : CallerM} {nt : Nat}
def ManyOK (P : Program) (base nt : Nat) (W : (Exit → Act → World → Prop) → Act → World → Prop) (st : St) (r : Ways) : Prop :=
  st.2.2 ≤ r.2 ∧ (∀ x ∈ r.1, st.2.2 ≤ x.2.2.2 ∧ x.2.2.2 ≤ r.2 ∧ DomOK st.2.1.get x.2.2.1.get st.2.2 x.2.2.2) ∧ ∀ (ρ : Env) (a : Act) (w : World) (Q : Exit → Act → World → Prop), TSat ρ st.1.get nt a → Sat base ρ st.2.1.get w → (∀ n, st.2.2 ≤ n → n < r.2 → ρ n = none) →
    (∀ x ∈ r.1, ∀ ρ' a' w', Ext ρ ρ' st.2.2 x.2.2.2 → TSat ρ' x.2.1.get nt a' → Sat base ρ' x.2.2.1.get w' → Keep st.2.1.get ρ w x.2.2.1.get ρ' w' → Q x.1.den a' w') → W Q a w
/-- The second of two, behind one of the first's ways. -/
theorem ManyOK.after {W2 : (Exit → Act → World → Prop) → Act → World → Prop} {st st1 : St} {q r : Ways} (h2 : ManyOK P base nt W2 st1 q) (hqr : ∀ y ∈ q.1, y ∈ r.1) (hhk : q.2 ≤ r.2) (hle : st.2.2 ≤ st1.2.2) {ρ ρ' : Env} {a' : Act} {w w' : World} {Q : Exit → Act → World → Prop}
    (hf : ∀ n, st.2.2 ≤ n → n < r.2 → ρ n = none)
    (hK : ∀ x ∈ r.1, ∀ ρ' a' w', Ext ρ ρ' st.2.2 x.2.2.2 → TSat ρ' x.2.1.get nt a' → Sat base ρ' x.2.2.1.get w' → Keep st.2.1.get ρ w x.2.2.1.get ρ' w' → Q x.1.den a' w')
    (g1 : Ext ρ ρ' st.2.2 st1.2.2) (g2 : TSat ρ' st1.1.get nt a') (g3 : Sat base ρ' st1.2.1.get w') (g4 : Keep st.2.1.get ρ w st1.2.1.get ρ' w') : W2 Q a' w' := by
  obtain ⟨a2, b2, c2⟩ := h2
  refine c2 ρ' a' w' Q g2 g3 (fun n h1 h2 => ?_) fun y hy ρ'' a'' w'' k1 k2 k3 k4 => ?_
  · rw [g1.off n (.inr h1)]
    exact hf n (by omega) (by omega)
  · exact hK y (hqr y hy) ρ'' a'' w'' (g1.trans k1 hle (b2 y hy).1) k2 k3 (g4.trans k4)
/-- One behind the other. -/
theorem ManyOK.bind {W1 W : (Exit → Act → World → Prop) → Act → World → Prop} {st : St} {r1 r : Ways} {f : Way → Option Ways} (C : Way → (Exit → Act → World → Prop) → Act → World → Prop) (N : (Exit → Act → World → Prop) → Exit → Act → World → Prop)
    (h1 : ManyOK P base nt W1 st r1) (hb : bindM r1.2 f r1.1 = some r) (hf : ∀ x ∈ r1.1, ∀ q, f x = some q → ManyOK P base nt (C x) x.2 q)
    (hW : ∀ Q a w, W1 (N Q) a w → W Q a w) (hN : ∀ x ∈ r1.1, ∀ q, f x = some q → ∀ Q a w, C x Q a w → N Q x.1.den a w) : ManyOK P base nt W st r := by
  obtain ⟨a1, b1, c1⟩ := h1
  obtain ⟨i1, i2, i3⟩ := bindM_spec hb
  refine ⟨Nat.le_trans a1 i1, fun y hy => ?_, fun ρ a w Q hta hs hfr hK => hW Q a w ?_⟩
  · obtain ⟨x, hx, q, hq, hqr, hyq⟩ := i3 y hy
    obtain ⟨k1, k2, k3⟩ := hf x hx q hq
    obtain ⟨m1, m2, m3⟩ := k2 y hyq
    obtain ⟨n1, n2, n3⟩ := b1 x hx
    exact ⟨by omega, by omega, n3.trans m3 n1 m1⟩
  · refine c1 ρ a w _ hta hs (fun n h1 h2 => hfr n h1 (by omega)) fun x hx ρ' a' w' g1 g2 g3 g4 => ?_
    obtain ⟨q, hq, hqr, hqm⟩ := i2 x hx
    exact hN x hx q hq Q a' w' ((hf x hx q hq).after hqm hqr (b1 x hx).1 hfr hK g1 g2 g3 g4)
theorem ManyOK.stay {W : (Exit → Act → World → Prop) → Act → World → Prop} {st : St} {ex : SExit} (hW : ∀ Q a w, Q ex.den a w → W Q a w) : ManyOK P base nt W st ([(ex, st)], st.2.2) :=
  ⟨Nat.le_refl _, fun x hx => by simp at hx; subst hx; exact ⟨Nat.le_refl _, Nat.le_refl _, DomOK.refl _ _ _⟩, fun ρ a w Q hta hs hf hK => hW Q a w (hK (ex, st) (List.mem_singleton.2 rfl) ρ a w (Ext.refl _ _ _) hta hs (Keep.refl _ _ _))⟩

/-- One operation of a region. -/
def putAll (T : PT SV) (nt : Nat) (dst : Option Tmp) : List Out → Option (List St)
  | [] => some []
  | (s, H, nx) :: r => match putT T nt dst s with
    | some T' => match putAll T nt dst r with
      | some l => some ((T', H, nx) :: l)
      | none => none
    | none => none
theorem putAll_spec {T : PT SV} {dst : Option Tmp} : ∀ {l : List Out} {m : List St}, putAll T nt dst l = some m → (∀ out ∈ l, ∃ T', putT T nt dst out.1 = some T' ∧ (T', out.2.1, out.2.2) ∈ m) ∧ ∀ st ∈ m, ∃ out ∈ l, st.2.1 = out.2.1 ∧ st.2.2 = out.2.2
  | [], m, h => by
    simp [putAll] at h
    subst h
    exact ⟨fun _ h => (by cases h), fun _ h => (by cases h)⟩
  | (s, H, nx) :: r, m, h => by
    simp only [putAll] at h
    split at h
    case h_2 => cases h
    rename_i T' hT
    split at h
    case h_2 => cases h
    rename_i l hl
    injection h with h
    subst h
    obtain ⟨i1, i2⟩ := putAll_spec hl
    refine ⟨fun out ho => ?_, fun st hst => ?_⟩
    · rcases List.mem_cons.1 ho with rfl | ho
      · exact ⟨T', hT, by simp⟩
      · obtain ⟨T'', h1, h2⟩ := i1 out ho
        exact ⟨T'', h1, by simp [h2]⟩
    · rcases List.mem_cons.1 hst with rfl | hst
      · exact ⟨_, List.mem_cons_self, rfl, rfl⟩
      · obtain ⟨out, h1, h2⟩ := i2 st hst
        exact ⟨out, by simp [h1], h2⟩
def evStepM (P : Program) (call : CallerM) (ops : Array Oper) (nt : Nat) (o : Oper) (st : St) : Option (List St × Nat) :=
  match wantS ops st.1.get o with
  | some true => match evOperM P call o (sig st.1.get) st.2.1 st.2.2 with
    | some (outs, hi) => match putAll st.1 nt o.dst outs with
      | some l => some (l, hi)
      | none => none
    | none => none
  | some false => match putT st.1 nt o.dst (.lit undef) with
    | some T' => some ([(T', st.2.1, st.2.2)], st.2.2)
    | none => none
  | none => none
theorem stepM_ok (hcall : ∀ k args H nx r, call k args H nx = some r → CallOKM P base k args H nx r) {ops : Array Oper} {i : Nat} {o : Oper} (hi : ops[i]? = some o) {st : St} {r : List St × Nat} (h : evStepM P call ops nt o st = some r) :
    st.2.2 ≤ r.2 ∧ (∀ x ∈ r.1, st.2.2 ≤ x.2.2 ∧ x.2.2 ≤ r.2 ∧ DomOK st.2.1.get x.2.1.get st.2.2 x.2.2) ∧ ∀ (ρ : Env) (a : Act) (w : World) (K : Act → World → Prop) (Q : Exit → Act → World → Prop), TSat ρ st.1.get nt a → Sat base ρ st.2.1.get w → (∀ n, st.2.2 ≤ n → n < r.2 → ρ n = none) →
      (∀ x ∈ r.1, ∀ ρ' a' w', Ext ρ ρ' st.2.2 x.2.2 → TSat ρ' x.1.get nt a' → Sat base ρ' x.2.1.get w' → Keep st.2.1.get ρ w x.2.1.get ρ' w' → K a' w') → wpOp P ops Q i K a w := by
  obtain ⟨T, H, nx⟩ := st
  unfold evStepM at h
  simp only at h
  have hT : ∀ (ρ : Env) (a : Act), TSat ρ T.get nt a → ∀ j want d s, o.guard = some (j, want) → (ops[j]?).bind (·.dst) = some d → T.get d = some s → ∃ v, a.tmps[d]? = some v ∧ den ρ s = some v :=
    fun ρ a h j want d s _ _ e => h.held d s e
  split at h
  · rename_i hw
    split at h
    case h_2 => cases h
    rename_i outs hi' he
    split at h
    case h_2 => cases h
    rename_i l hl
    injection h with h
    subst h
    obtain ⟨h1, hdm, h2⟩ := operM_ok hcall he
    obtain ⟨p1, p2⟩ := putAll_spec hl
    refine ⟨h1, fun x hx => ?_, fun ρ a w K Q hta hs hf hK => ?_⟩
    · obtain ⟨out, ho, e1, e2⟩ := p2 x hx
      have := hdm out ho
      rw [e1, e2]
      exact this
    · unfold wpOp
      rw [hi]
      simp only []
      rw [want_ok (nt := nt) hw (hT ρ a hta), if_pos rfl]
      refine .inl (h2 ρ a w _ Q (fun x _ s e => hta.sig x s e) hs hf fun out ho ρ' v w' g1 g2 g3 g4 => ?_)
      obtain ⟨T', hT', hm⟩ := p1 out ho
      exact hK _ hm ρ' _ w' g1 (putT_sat (hta.more g1.more) hT' g2) g3 g4
  · rename_i hw
    split at h
    case h_2 => cases h
    rename_i T' hp
    injection h with h
    subst h
    refine ⟨Nat.le_refl _, fun x hx => by simp at hx; subst hx; exact ⟨Nat.le_refl _, Nat.le_refl _, DomOK.refl _ _ _⟩, fun ρ a w K Q hta hs hf hK => ?_⟩
    unfold wpOp
    rw [hi]
    simp only []
    rw [want_ok (nt := nt) hw (hT ρ a hta), if_neg (by simp)]
    exact hK (T', H, nx) (List.mem_singleton.2 rfl) ρ _ w (Ext.refl _ _ _) (putT_sat hta hp rfl) hs (Keep.refl _ _ _)
  · cases h

/-- Operations one behind the other. -/
def evOpsM (P : Program) (call : CallerM) (ops : Array Oper) (nt : Nat) : List Oper → St → Option Ways
  | [], st => some ([(.normal, st)], st.2.2)
  | o :: rest, st => match evStepM P call ops nt o st with
    | some (l, hi) => bindM hi (fun st' => evOpsM P call ops nt rest st') l
    | none => none
theorem opsM_ok (hcall : ∀ k args H nx r, call k args H nx = some r → CallOKM P base k args H nx r) {ops : Array Oper} : ∀ (l : List Oper) (k : Nat) (st : St) (r : Ways), (∀ j, l[j]? = ops[k + j]?) → evOpsM P call ops nt l st = some r → ManyOK P base nt (fun Q a w => wpOps P ops Q (List.range' k l.length) a w) st r
  | [], k, st, r, hl, h => by
    simp only [evOpsM] at h
    injection h with h
    subst h
    exact ManyOK.stay fun Q a w h => h
  | o :: rest, k, st, r, hl, h => by
    simp only [evOpsM] at h
    split at h
    case h_2 => cases h
    rename_i l hi h1
    have hik : ops[k]? = some o := by have := hl 0; simpa using this.symm
    obtain ⟨s1, sd, s2⟩ := stepM_ok hcall hik h1
    obtain ⟨i1, i2, i3⟩ := bindM_spec h
    simp only at s1 sd s2 i1
    have ih : ∀ x q, evOpsM P call ops nt rest x = some q → ManyOK P base nt (fun Q a w => wpOps P ops Q (List.range' (k + 1) rest.length) a w) x q := fun x q hq => opsM_ok hcall rest (k + 1) x q (fun j => by have := hl (j + 1); simp only [List.getElem?_cons_succ] at this; rw [this]; congr 1; omega) hq
    refine ⟨Nat.le_trans s1 i1, fun y hy => ?_, fun ρ a w Q hta hs hf hK => ?_⟩
    · obtain ⟨x, hx, q, hq, hqr, hyq⟩ := i3 y hy
      obtain ⟨k1, k2, k3⟩ := ih x q hq
      obtain ⟨m1, m2, m3⟩ := k2 y hyq
      obtain ⟨n1, n2, n3⟩ := sd x hx
      exact ⟨by omega, by omega, n3.trans m3 n1 m1⟩
    · show wpOps P ops Q (List.range' k (o :: rest).length) a w
      rw [show List.range' k (o :: rest).length = k :: List.range' (k + 1) rest.length from rfl, wpOps_cons]
      refine s2 ρ a w _ Q hta hs (fun n h1 h2 => hf n h1 (by omega)) fun x hx ρ' a' w' g1 g2 g3 g4 => ?_
      obtain ⟨q, hq, hqr, hqm⟩ := i2 x hx
      exact (ih x q hq).after hqm hqr (sd x hx).1 hf hK g1 g2 g3 g4
theorem regionM_ok (hcall : ∀ k args H nx r, call k args H nx = some r → CallOKM P base k args H nx r) {ops : Array Oper} {id : Nat} {st : St} {r : Ways} (h : evOpsM P call ops nt ops.toList st = some r) : ManyOK P base nt (fun Q a w => (Code.region id ops false).wp P Q a w) st r := by
  obtain ⟨h1, hdm, h2⟩ := opsM_ok hcall ops.toList 0 st r (fun j => by simp) h
  refine ⟨h1, hdm, fun ρ a w Q hta hs hf hK => wp_region ?_⟩
  have := h2 ρ a w Q hta hs hf hK
  rwa [Array.length_toList, ← List.range_eq_range'] at this

/-- A loop at its round's head. -/
def LoopAt (P : Program) (c : Code) (Q : Exit → Act → World → Prop) (a : Act) (w : World) : Prop :=
  ∀ (b : Frame) (k : List Item) (cs : List Frame), ∃ e a' w', Q e a' w' ∧ Arrives P (lone (b.at a (.code c :: .inLoop c :: k)) cs w) b k cs e a' w'
theorem wp_of_loopAt {c : Code} {Q : Exit → Act → World → Prop} {a : Act} {w : World} (h : LoopAt P c Q a w) : (Code.loop c).wp P Q a w := by
  intro b k cs
  obtain ⟨e, a', w', hq, harr⟩ := h b k cs
  exact ⟨e, a', w', hq, .of_steps (.one step_loop) harr⟩
theorem loopAt_of_wp {c : Code} {Q : Exit → Act → World → Prop} {a : Act} {w : World} (h : c.wp P (Exit.then (LoopAt P c Q) Q) a w) : LoopAt P c Q a w := by
  intro b k cs
  obtain ⟨e, a₁, w₁, hq, harr⟩ := h b (.inLoop c :: k) cs
  cases e with
  | normal =>
    obtain ⟨e₂, a₂, w₂, hq₂, harr₂⟩ := hq b k cs
    exact ⟨e₂, a₂, w₂, hq₂, .of_steps (Steps.trans harr (.one step_inLoop)) harr₂⟩
  | exit id => exact ⟨_, a₁, w₁, hq, .pass (x := .inLoop c) rfl (fun _ _ => .inl (by simp)) harr⟩
  | goto l => exact ⟨_, a₁, w₁, hq, .pass (x := .inLoop c) rfl (fun _ _ => .inl (by simp)) harr⟩
  | ret => exact ⟨_, a₁, w₁, hq, .pass (x := .inLoop c) rfl (fun _ _ => .inl (by simp)) harr⟩
  | panic ch => exact ⟨_, a₁, w₁, hq, .pass (x := .inLoop c) rfl (fun _ _ => .inl (by simp)) harr⟩
  | outgrown => exact ⟨_, a₁, w₁, hq, .pass (x := .inLoop c) rfl (fun _ _ => .inl (by simp)) harr⟩
/-- A scope's body, or what stands behind one of its labels. -/
def ScopeAt (P : Program) (B c : Code) (Q : Exit → Act → World → Prop) (a : Act) (w : World) : Prop :=
  ∀ (b : Frame) (k : List Item) (cs : List Frame), ∃ e a' w', Q e a' w' ∧ Arrives P (lone (b.at a (.code c :: .inScope B :: k)) cs w) b k cs e a' w'
theorem wp_of_scopeAt {c : Code} {Q : Exit → Act → World → Prop} {a : Act} {w : World} (h : ScopeAt P c c Q a w) : (Code.scope c).wp P Q a w := by
  intro b k cs
  obtain ⟨e, a', w', hq, harr⟩ := h b k cs
  exact ⟨e, a', w', hq, .of_steps (.one step_scope) harr⟩
/-- A jump goes on behind its label. -/
def scopeQ (P : Program) (B : Code) (Q : Exit → Act → World → Prop) : Exit → Act → World → Prop
  | .goto l, a, w => ∃ rest, findLabel B l = some rest ∧ ScopeAt P B rest Q a w
  | e, a, w => Q e a w
theorem scopeAt_of_wp {B c : Code} {Q : Exit → Act → World → Prop} {a : Act} {w : World} (h : c.wp P (scopeQ P B Q) a w) : ScopeAt P B c Q a w := by
  intro b k cs
  obtain ⟨e, a₁, w₁, hq, harr⟩ := h b (.inScope B :: k) cs
  cases e with
  | normal => exact ⟨.normal, a₁, w₁, hq, Steps.trans harr (.one step_inScope)⟩
  | exit id => exact ⟨.exit id, a₁, w₁, hq, fun k' hk => harr k' (by simp [exitTo, hk])⟩
  | goto l =>
    obtain ⟨rest, hf, hsc⟩ := hq
    have hg : gotoIn l (.inScope B :: k) = some (.code rest :: .inScope B :: k) := by simp [gotoIn, hf]
    obtain ⟨e₂, a₂, w₂, hq₂, harr₂⟩ := hsc b k cs
    exact ⟨e₂, a₂, w₂, hq₂, .of_steps (harr _ hg) harr₂⟩
  | ret => exact ⟨_, a₁, w₁, hq, harr⟩
  | panic ch => exact ⟨_, a₁, w₁, hq, harr⟩
  | outgrown => exact ⟨_, a₁, w₁, hq, harr⟩

def leaveB (id : Nat) (x : Way) : Way := match x.1 with
  | .leave id' => bif Nat.beq id' id then (.normal, x.2) else x
  | _ => x
def evC (P : Program) (call : CallerM) (nt : Nat) : Nat → Option Code → Code → St → Option Ways
  | 0, _, _, _ => none
  | f + 1, some B, c, st => match evC P call nt f none c st with
    | some (l, hi) => bindM hi (fun x => match x.1 with
      | .jump lab => match findLabel B lab with
        | some rest => evC P call nt f (some B) rest x.2
        | none => none
      | _ => some ([x], x.2.2.2)) l
    | none => none
  | f + 1, none, c, st => match c with
    | .skip => some ([(.normal, st)], st.2.2)
    | .label _ => some ([(.normal, st)], st.2.2)
    | .ret => some ([(.ret, st)], st.2.2)
    | .exit id => some ([(.leave id, st)], st.2.2)
    | .goto l => some ([(.jump l, st)], st.2.2)
    | .seq a b => match evC P call nt f none a st with
      | some (l, hi) => bindM hi (fun x => match x.1 with
        | .normal => evC P call nt f none b x.2
        | _ => some ([x], x.2.2.2)) l
      | none => none
    | .cond c a b => match sig st.1.get c with
      | some (.lit (.bool true)) => evC P call nt f none a st
      | some (.lit (.bool false)) => evC P call nt f none b st
      | _ => none
    | .block id b => match evC P call nt f none b st with
      | some (l, hi) => some (l.map (leaveB id), hi)
      | none => none
    | .loop b => match evC P call nt f none b st with
      | some (l, hi) => bindM hi (fun x => match x.1 with
        | .normal => evC P call nt f none (.loop b) x.2
        | _ => some ([x], x.2.2.2)) l
      | none => none
    | .scope b => evC P call nt f (some b) b st
    | .region _ ops draw => bif draw then (match evDraw P (single call) ops nt st with
        | some st' => some ([(.normal, st')], st'.2.2)
        | none => none)
      else evOpsM P call ops nt ops.toList st
    | _ => none
theorem codeM_ok (hP : NoCount P) (hm : P.follows .mixedOrders = true) (hcall : ∀ k args H nx r, call k args H nx = some r → CallOKM P base k args H nx r) :
    ∀ (f : Nat), (∀ (c : Code) (st : St) (r : Ways), evC P call nt f none c st = some r → ManyOK P base nt (fun Q a w => c.wp P Q a w) st r ∧ (∀ b, c = .loop b → ManyOK P base nt (fun Q a w => LoopAt P b Q a w) st r)) ∧
      ∀ (B c : Code) (st : St) (r : Ways), evC P call nt f (some B) c st = some r → ManyOK P base nt (fun Q a w => ScopeAt P B c Q a w) st r := by
  intro f
  induction f with
  | zero => exact ⟨(fun c st r h => by cases h), (fun B c st r h => by cases h)⟩
  | succ f ih =>
    obtain ⟨ih1, ih2⟩ := ih
    constructor
    · intro c st r h
      simp only [evC] at h
      split at h
      · injection h with h
        subst h
        exact ⟨ManyOK.stay fun Q a w h => wp_skip h, fun b e => by cases e⟩
      · injection h with h
        subst h
        exact ⟨ManyOK.stay fun Q a w h => wp_label h, fun b e => by cases e⟩
      · injection h with h
        subst h
        exact ⟨ManyOK.stay fun Q a w h => wp_ret h, fun b e => by cases e⟩
      · injection h with h
        subst h
        exact ⟨ManyOK.stay fun Q a w h => wp_exit h, fun b e => by cases e⟩
      · injection h with h
        subst h
        exact ⟨ManyOK.stay fun Q a w h => wp_goto h, fun b e => by cases e⟩
      · rename_i x y
        refine ⟨?_, fun b e => by cases e⟩
        split at h
        case h_2 => cases h
        rename_i l hi h1
        refine ManyOK.bind (fun x => match x.1 with | .normal => (fun Q a w => y.wp P Q a w) | e => (fun Q a w => Q e.den a w)) (fun Q => Exit.then (y.wp P Q) Q) (ih1 _ _ _ h1).1 h ?_ (fun Q a w h => wp_seq h) ?_
        · intro z hz q hq
          obtain ⟨ez, sz⟩ := z
          cases ez with
          | normal => exact (ih1 _ _ _ hq).1
          | _ =>
            simp only at hq
            injection hq with hq
            subst hq
            exact ManyOK.stay fun Q a w h => h
        · intro z hz q hq Q a w hc
          obtain ⟨ez, sz⟩ := z
          cases ez <;> exact hc
      · rename_i q x y
        refine ⟨?_, fun b e => by cases e⟩
        split at h
        · rename_i hq
          obtain ⟨a1, b1, c1⟩ := (ih1 _ _ _ h).1
          refine ⟨a1, b1, fun ρ a w Q hta hs hf hK => ?_⟩
          have := hta.sig q _ hq
          simp [den] at this
          exact wp_cond_true this.symm (c1 ρ a w Q hta hs hf hK)
        · rename_i hq
          obtain ⟨a1, b1, c1⟩ := (ih1 _ _ _ h).1
          refine ⟨a1, b1, fun ρ a w Q hta hs hf hK => ?_⟩
          have := hta.sig q _ hq
          simp [den] at this
          exact wp_cond_false this.symm (c1 ρ a w Q hta hs hf hK)
        · cases h
      · rename_i id x
        refine ⟨?_, fun b e => by cases e⟩
        split at h
        case h_2 => cases h
        rename_i l hi h1
        injection h with h
        subst h
        obtain ⟨a1, b1, c1⟩ := (ih1 _ _ _ h1).1
        have hst : ∀ z, (leaveB id z).2 = z.2 := by
          intro z
          obtain ⟨ez, sz⟩ := z
          cases ez with
          | leave i => simp only [leaveB]; cases Nat.beq i id <;> rfl
          | _ => rfl
        refine ⟨a1, fun y hy => ?_, fun ρ a w Q hta hs hf hK => wp_block (c1 ρ a w _ hta hs hf fun z hz ρ' a' w' g1 g2 g3 g4 => ?_)⟩
        · obtain ⟨z, hz, rfl⟩ := List.mem_map.1 hy
          rw [hst]
          exact b1 z hz
        · have := hK (leaveB id z) (List.mem_map.2 ⟨z, hz, rfl⟩) ρ' a' w' (by rw [hst]; exact g1) (by rw [hst]; exact g2) (by rw [hst]; exact g3) (by rw [hst]; exact g4)
          obtain ⟨ez, sz⟩ := z
          cases ez with
          | leave i =>
            simp only [leaveB] at this
            cases hb : Nat.beq i id with
            | true =>
              rw [hb] at this
              have hid : i = id := Nat.eq_of_beq_eq_true hb
              simp only [SExit.den, Exit.inBlock, hid, if_true]
              exact this
            | false =>
              rw [hb] at this
              have hid : i ≠ id := beq_ne hb
              simp only [SExit.den, Exit.inBlock, hid, if_false]
              exact this
          | _ => exact this
      · rename_i x
        have key : ManyOK P base nt (fun Q a w => LoopAt P x Q a w) st r := by
          split at h
          case h_2 => cases h
          rename_i l hi h1
          refine ManyOK.bind (fun z => match z.1 with | .normal => (fun Q a w => LoopAt P x Q a w) | e => (fun Q a w => Q e.den a w)) (fun Q => Exit.then (LoopAt P x Q) Q) (ih1 _ _ _ h1).1 h ?_ (fun Q a w h => loopAt_of_wp h) ?_
          · intro z hz q hq
            obtain ⟨ez, sz⟩ := z
            cases ez with
            | normal => exact (ih1 _ _ _ hq).2 x rfl
            | _ =>
              simp only at hq
              injection hq with hq
              subst hq
              exact ManyOK.stay fun Q a w h => h
          · intro z hz q hq Q a w hc
            obtain ⟨ez, sz⟩ := z
            cases ez <;> exact hc
        refine ⟨?_, fun b e => by injection e with e; subst e; exact key⟩
        obtain ⟨a1, b1, c1⟩ := key
        exact ⟨a1, b1, fun ρ a w Q hta hs hf hK => wp_of_loopAt (c1 ρ a w Q hta hs hf hK)⟩
      · rename_i x
        refine ⟨?_, fun b e => by cases e⟩
        obtain ⟨a1, b1, c1⟩ := ih2 _ _ _ _ h
        exact ⟨a1, b1, fun ρ a w Q hta hs hf hK => wp_of_scopeAt (c1 ρ a w Q hta hs hf hK)⟩
      · rename_i id ops draw
        refine ⟨?_, fun b e => by cases e⟩
        cases draw with
        | true =>
          simp only [cond_true] at h
          split at h
          case h_2 => cases h
          rename_i st1 h1
          injection h with h
          subst h
          obtain ⟨a1, b1, c1⟩ := draw_ok (base := base) (id := id) hP hm (single_ok hcall) h1
          exact ⟨a1, fun y hy => by simp at hy; subst hy; exact ⟨a1, Nat.le_refl _, b1⟩, fun ρ a w Q hta hs hf hK => c1 ρ a w Q hta hs hf (hK (.normal, st1) (List.mem_singleton.2 rfl))⟩
        | false =>
          simp only [cond_false] at h
          exact regionM_ok hcall h
      · cases h
    · intro B c st r h
      simp only [evC] at h
      split at h
      case h_2 => cases h
      rename_i l hi h1
      refine ManyOK.bind (fun z => match z.1 with | .jump lab => (fun Q a w => ∃ rest, findLabel B lab = some rest ∧ ScopeAt P B rest Q a w) | e => (fun Q a w => Q e.den a w)) (fun Q => scopeQ P B Q) (ih1 _ _ _ h1).1 h ?_ (fun Q a w h => scopeAt_of_wp h) ?_
      · intro z hz q hq
        obtain ⟨ez, sz⟩ := z
        cases ez with
        | jump lab =>
          simp only at hq
          split at hq
          case h_2 => cases hq
          rename_i rest hr
          obtain ⟨a1, b1, c1⟩ := ih2 _ _ _ _ hq
          exact ⟨a1, b1, fun ρ a w Q hta hs hf hK => ⟨rest, hr, c1 ρ a w Q hta hs hf hK⟩⟩
        | _ =>
          simp only at hq
          injection hq with hq
          subst hq
          exact ManyOK.stay fun Q a w h => h
      · intro z hz q hq Q a w hc
        obtain ⟨ez, sz⟩ := z
        cases ez <;> exact hc

/-- What a function hands back. -/
def resS (P : Program) (T : Nat → Option SV) (H : Heap) : List ResultVar → Option (List SV)
  | [] => some []
  | .tmp t :: r => match T t with
    | some s => (resS P T H r).map (s :: ·)
    | none => none
  | .cell t ty :: r => match T t with
    | some (.ptr n off) => match H.get n with
      | some ⟨_, .row cs _ _⟩ => match loadS P ty cs off with
        | some s => (resS P T H r).map (s :: ·)
        | none => none
      | _ => none
    | _ => none
def resM (tmps : Array Value) : ResultVar → Sem Value
  | .tmp t => pure (tmps.getD t undef)
  | .cell a t => do loadVar t (← asAddr (tmps.getD a undef))
theorem resS_ok {ρ : Env} {T : Nat → Option SV} {H : Heap} {a : Act} {w : World} (hta : TSat ρ T nt a) (hs : Sat base ρ H.get w) : ∀ {l : List ResultVar} {ss : List SV}, resS P T H l = some ss →
    ∃ vs : List Value, (l.mapM (resM a.tmps)).run P w = Result.ok vs w ∧ denL ρ ss = some vs
  | [], ss, h => by simp [resS] at h; subst h; exact ⟨[], rfl, rfl⟩
  | .tmp t :: r, ss, h => by
    simp only [resS] at h
    split at h
    · rename_i s hst
      cases hr : resS P T H r with
      | none => simp [hr] at h
      | some rs =>
        simp [hr] at h
        subst h
        obtain ⟨vs, h1, h2⟩ := resS_ok hta hs hr
        obtain ⟨v, g1, g2⟩ := hta.held t s hst
        refine ⟨v :: vs, ?_, denL_cons.2 ⟨v, vs, g2, h2, rfl⟩⟩
        have hv : a.tmps.getD t undef = v := by simp [Array.getD_eq_getD_getElem?, g1]
        rw [List.mapM_cons]
        simp only [resM, Sem.run_bind, hv, Sem.run_pure, Result.andThen_ok, h1]
    · cases h
  | .cell t ty :: r, ss, h => by
    simp only [resS] at h
    split at h
    · rename_i n off hst
      split at h
      · rename_i lk cs e slack hg
        split at h
        · rename_i s hl
          cases hr : resS P T H r with
          | none => simp [hr] at h
          | some rs =>
            simp [hr] at h
            subst h
            obtain ⟨vs, h1, h2⟩ := resS_ok hta hs hr
            obtain ⟨v, g1, g2⟩ := hta.held t _ hst
            obtain ⟨b, us, rest, k1, k2, k3, k4⟩ := hs.row hg
            simp [den, k1] at g2
            obtain ⟨u, l1, l2⟩ := run_loadVar hl k3 k2
            refine ⟨u :: vs, ?_, denL_cons.2 ⟨u, vs, l2, h2, rfl⟩⟩
            have hv : a.tmps.getD t undef = .pointer (some ⟨b, off, none⟩) := by simp [Array.getD_eq_getD_getElem?, g1, g2]
            rw [List.mapM_cons]
            simp only [resM, Sem.run_bind, hv, asAddr, Sem.run_pure, Result.andThen_ok, l1, h1]
        · cases h
      · cases h
    · cases h
def outS : List SV → SV
  | [s] => s
  | l => .tup l
theorem results_ok {ρ : Env} {T : Nat → Option SV} {H : Heap} {a : Act} {w : World} {fn : Func} (hta : TSat ρ T nt a) (hs : Sat base ρ H.get w) {ss : List SV} (h : resS P T H fn.results.toList = some ss) : ∃ v, (results fn a.tmps).run P w = .ok v w ∧ den ρ (outS ss) = some v := by
  obtain ⟨vs, h1, h2⟩ := resS_ok (P := P) hta hs h
  have hlen := denL_length h2
  have hres : results fn a.tmps = (fn.results.mapM (resM a.tmps) >>= fun vs => pure (if h : vs.size = 1 then vs[0] else .tuple vs)) := by
    unfold results resM
    rfl
  have hm : (fn.results.mapM (resM a.tmps)).run P w = .ok vs.toArray w := by
    rw [Array.mapM_eq_mapM_toList, Sem.run_map, h1]
    rfl
  have hrun : (results fn a.tmps).run P w = .ok (if h : vs.toArray.size = 1 then vs.toArray[0] else .tuple vs.toArray) w := by
    rw [hres, Sem.run_bind, hm]
    rfl
  refine ⟨_, hrun, ?_⟩
  match ss, vs, h2 with
  | [], vs, h2 =>
    simp [denL] at h2
    subst h2
    simp [outS, den, denL]
  | [s], vs, h2 =>
    obtain ⟨v, us, g1, g2, rfl⟩ := denL_cons.1 h2
    simp [denL] at g2
    subst g2
    simp [outS, g1]
  | s :: t :: r, vs, h2 =>
    obtain ⟨v, us, g1, g2, rfl⟩ := denL_cons.1 h2
    obtain ⟨u, xs, k1, k2, rfl⟩ := denL_cons.1 g2
    simp only [outS, den, h2, Option.map_some]
    rw [dif_neg (by simp)]
def tempsOf : List SV → Nat → PT SV → PT SV
  | [], _, T => T
  | s :: r, i, T => tempsOf r (i + 1) (T.put i (some s))
theorem tempsOf_get : ∀ (l : List SV) (i : Nat) (T : PT SV) (t : Nat) (s : SV), (tempsOf l i T).get t = some s → (i ≤ t ∧ l[t - i]? = some s) ∨ T.get t = some s
  | [], i, T, t, s, h => .inr h
  | q :: r, i, T, t, s, h => by
    rcases tempsOf_get r (i + 1) _ t s h with ⟨h1, h2⟩ | h
    · refine .inl ⟨by omega, ?_⟩
      rw [show t - i = (t - (i + 1)) + 1 by omega]
      simpa using h2
    · rw [PT.get_put] at h
      split at h
      · rename_i e
        injection h with h
        subst h
        subst e
        exact .inl ⟨Nat.le_refl _, by simp⟩
      · exact .inr h
/-- The ways of a body, handed back. -/
def backAll (P : Program) (rs : List ResultVar) : List Way → Option (List Out)
  | [] => some []
  | (e, T, H, nx) :: r => match e with
    | .leave _ => none
    | .jump _ => none
    | _ => match resS P T.get H rs with
      | some ss => match backAll P rs r with
        | some l => some ((outS ss, H, nx) :: l)
        | none => none
      | none => none
theorem backAll_spec {rs : List ResultVar} : ∀ {l : List Way} {m : List Out}, backAll P rs l = some m → (∀ x ∈ l, (x.1 = .normal ∨ x.1 = .ret) ∧ ∃ ss, resS P x.2.1.get x.2.2.1 rs = some ss ∧ (outS ss, x.2.2.1, x.2.2.2) ∈ m) ∧ ∀ out ∈ m, ∃ x ∈ l, out.2.1 = x.2.2.1 ∧ out.2.2 = x.2.2.2
  | [], m, h => by
    simp [backAll] at h
    subst h
    exact ⟨fun _ h => (by cases h), fun _ h => (by cases h)⟩
  | (e, T, H, nx) :: r, m, h => by
    simp only [backAll] at h
    have he : ∃ ss l, resS P T.get H rs = some ss ∧ backAll P rs r = some l ∧ m = (outS ss, H, nx) :: l ∧ (e = .normal ∨ e = .ret) := by
      cases e with
      | leave _ => cases h
      | jump _ => cases h
      | normal =>
        simp only at h
        split at h
        case h_2 => cases h
        rename_i ss hss
        split at h
        case h_2 => cases h
        rename_i l hl
        injection h with h
        exact ⟨ss, l, hss, hl, h.symm, .inl rfl⟩
      | ret =>
        simp only at h
        split at h
        case h_2 => cases h
        rename_i ss hss
        split at h
        case h_2 => cases h
        rename_i l hl
        injection h with h
        exact ⟨ss, l, hss, hl, h.symm, .inr rfl⟩
    obtain ⟨ss, l, h1, h2, rfl, h3⟩ := he
    obtain ⟨i1, i2⟩ := backAll_spec h2
    refine ⟨fun x hx => ?_, fun out ho => ?_⟩
    · rcases List.mem_cons.1 hx with rfl | hx
      · exact ⟨h3, ss, h1, by simp⟩
      · obtain ⟨g1, ss', g2, g3⟩ := i1 x hx
        exact ⟨g1, ss', g2, by simp [g3]⟩
    · rcases List.mem_cons.1 ho with rfl | ho
      · exact ⟨_, List.mem_cons_self, rfl, rfl⟩
      · obtain ⟨x, g1, g2⟩ := i2 out ho
        exact ⟨x, by simp [g1], g2⟩
def evCallM (P : Program) (ext : Caller) (cf : Nat) : Nat → CallerM
  | 0, _, _, _, _ => none
  | d + 1, k, args, H, nx => match P.funcs[k]? with
    | some fn => match fn.body with
      | some c => match evC P (evCallM P ext cf d) (max fn.ntmps args.length) cf none c (tempsOf args 0 .nil, H, nx) with
        | some (l, hi) => match backAll P fn.results.toList l with
          | some outs => some (outs, hi)
          | none => none
        | none => none
      | none => lift (ext k args H nx)
    | none => none
theorem bodyM_ok (hP : NoCount P) (hm : P.follows .mixedOrders = true) (ext : Caller) (cf d : Nat) (ih : ∀ (k : FuncId) (args : List SV) (H : Heap) (nx : Nat) (r : Outs), evCallM P ext cf d k args H nx = some r → CallOKM P base k args H nx r) {k : FuncId} {fn : Func} {c : Code} (hfn : P.funcs[k]? = some fn) (hc : fn.body = some c) {args : List SV} {H : Heap} {nx hi : Nat} {l : List Way} {outs : List Out}
    (he : evC P (evCallM P ext cf d) (max fn.ntmps args.length) cf none c (tempsOf args 0 .nil, H, nx) = some (l, hi)) (hr : backAll P fn.results.toList l = some outs) : BodyOKM P base k args H nx (outs, hi) := by
  obtain ⟨a1, b1, c1⟩ := ((codeM_ok (base := base) hP hm ih cf).1 c _ _ he).1
  obtain ⟨p1, p2⟩ := backAll_spec hr
  refine ⟨a1, fun out ho => ?_, fun ρ vals w hd hs hf => calls_of_wp hfn hc ?_⟩
  · obtain ⟨x, hx, e1, e2⟩ := p2 out ho
    rw [e1, e2]
    exact b1 x hx
  · have hlen := denL_length hd
    refine c1 ρ _ w _ ⟨?_, rfl, ?_⟩ hs hf fun x hx ρ' a' w' g1 g2 g3 g4 => ?_
    · simp; omega
    · intro t s ht
      rcases tempsOf_get args 0 .nil t s ht with ⟨h1, h2⟩ | h
      · simp only [Nat.sub_zero] at h2
        obtain ⟨v, k1, k2⟩ := denL_get hd h2
        have hlt : t < vals.length := (List.getElem?_eq_some_iff.1 k1).1
        exact ⟨v, by rw [Array.getElem?_append_left (by simpa using hlt)]; simpa using k1, k2⟩
      · cases h
    · obtain ⟨hex, ss, hss, hmem⟩ := p1 x hx
      obtain ⟨v, k1, k2⟩ := results_ok (P := P) g2 g3 hss
      obtain ⟨ex, sx⟩ := x
      rcases hex with rfl | rfl
      · exact ⟨g2.defers, v, k1, _, hmem, ρ', v, rfl, g1, k2, g3, g4⟩
      · exact ⟨g2.defers, v, k1, _, hmem, ρ', v, rfl, g1, k2, g3, g4⟩
theorem enters_of {P : Program} {k : FuncId} {fn : Func} {c : Code} (hfn : P.funcs[k]? = some fn) (hc : fn.body = some c) : enters P k = true := by simp [enters, hfn, hc]
theorem callM_ok (hP : NoCount P) (hm : P.follows .mixedOrders = true) (ext : Caller) (hext : ∀ k fn args H nx out, P.funcs[k]? = some fn → fn.body = none → ext k args H nx = some out → CallOK P base k args H nx out) (cf : Nat) : ∀ (d : Nat) (k : FuncId) (args : List SV) (H : Heap) (nx : Nat) (r : Outs), evCallM P ext cf d k args H nx = some r → CallOKM P base k args H nx r := by
  intro d
  induction d with
  | zero => intro k args H nx r h; cases h
  | succ d ih =>
    intro k args H nx r h
    simp only [evCallM] at h
    split at h
    case h_2 => cases h
    rename_i fn hfn
    split at h
    · rename_i c hc
      split at h
      case h_2 => cases h
      rename_i l hi he
      split at h
      case h_2 => cases h
      rename_i outs hr
      injection h with h
      subst h
      obtain ⟨a1, b1, c1⟩ := bodyM_ok hP hm ext cf d ih hfn hc he hr
      exact ⟨a1, b1, fun ρ vals w hd hs hf => .inl ⟨run_callFunc hP (enters_of hfn hc) _ w, c1 ρ vals w hd hs hf⟩⟩
    · rename_i hc
      obtain ⟨out, h1, rfl⟩ := lift_some h
      obtain ⟨a1, b1, c1⟩ := hext k fn args H nx out hfn hc h1
      refine ⟨a1, fun q hq => by simp at hq; subst hq; exact ⟨a1, Nat.le_refl _, b1⟩, fun ρ vals w hd hs hf => ?_⟩
      rcases c1 ρ vals w hd hs hf with ⟨g1, g2⟩ | ⟨ρ', v, w', g1, g2, g3, g4, g5⟩
      · refine .inl ⟨g1, g2.mono ?_⟩
        rintro e w' ⟨ρ', v, rfl, k⟩
        exact ⟨out, by simp, ρ', v, rfl, k⟩
      · exact .inr ⟨out, by simp, ρ', v, w', g1, g2, g3, g4, g5⟩
/-- All ways of a call come to one value without names. -/
def allGive (r : Option Outs) (v : Value) (eq : Value → Bool) : Bool :=
  match r with
  | some (l, _) => l.all fun out => match plain out.1 with
    | some u => eq u
    | none => false
  | none => false
end
end Ev
end Go.Proofs.YtekhboekiehdhaaGreatDoor
