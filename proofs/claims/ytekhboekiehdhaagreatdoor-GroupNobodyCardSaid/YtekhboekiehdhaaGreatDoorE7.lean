/- A step over names: an operation, or a call of a function; and operations one behind the other. -/
import Derived.Test.YtekhboekiehdhaaGreatDoorE6
set_option linter.unusedVariables false
set_option linter.unusedSimpArgs false
namespace Go.Proofs.YtekhboekiehdhaaGreatDoor
namespace Ev
open Go.RowKit

/-- What a call of a function that has a body comes to. -/
def BodyOK (P : Program) (base : Nat) (f : FuncId) (args : List SV) (H : Heap) (nx : Nat) (out : Out) : Prop :=
  nx ≤ out.2.2 ∧ DomOK H.get out.2.1.get nx out.2.2 ∧ ∀ (ρ : Env) (vals : List Value) (w : World), denL ρ args = some vals → Sat base ρ H.get w → (∀ n, nx ≤ n → n < out.2.2 → ρ n = none) →
    Calls P f vals.toArray w fun e w' => ∃ ρ' v, e = .returned v ∧ Ext ρ ρ' nx out.2.2 ∧ den ρ' out.1 = some v ∧ Sat base ρ' out.2.1.get w' ∧ Keep H.get ρ w out.2.1.get ρ' w'
/-- What a call comes to: of a function that has a body, or of one of the machine's own. -/
def CallOK (P : Program) (base : Nat) (f : FuncId) (args : List SV) (H : Heap) (nx : Nat) (out : Out) : Prop :=
  nx ≤ out.2.2 ∧ DomOK H.get out.2.1.get nx out.2.2 ∧ ∀ (ρ : Env) (vals : List Value) (w : World), denL ρ args = some vals → Sat base ρ H.get w → (∀ n, nx ≤ n → n < out.2.2 → ρ n = none) →
    ((callFunc f vals.toArray).run P w = .ok (.enter f vals.toArray) w ∧ Calls P f vals.toArray w fun e w' => ∃ ρ' v, e = .returned v ∧ Ext ρ ρ' nx out.2.2 ∧ den ρ' out.1 = some v ∧ Sat base ρ' out.2.1.get w' ∧ Keep H.get ρ w out.2.1.get ρ' w') ∨
    (∃ ρ' v w', (callFunc f vals.toArray).run P w = .ok (.value v) w' ∧ Ext ρ ρ' nx out.2.2 ∧ den ρ' out.1 = some v ∧ Sat base ρ' out.2.1.get w' ∧ Keep H.get ρ w out.2.1.get ρ' w')
/-- What a step comes to: an operation or a call. -/
def StepOK (P : Program) (base : Nat) (o : Oper) (σ : Sig) (H : Heap) (nx : Nat) (out : Out) : Prop :=
  nx ≤ out.2.2 ∧ DomOK H.get out.2.1.get nx out.2.2 ∧ ∀ (ρ : Env) (a : Act) (w : World) (K : Act → World → Prop) (Q : Exit → Act → World → Prop), (∀ x ∈ o.op.operands, ∀ s, σ x = some s → den ρ s = some (a.eval x)) → Sat base ρ H.get w → (∀ n, nx ≤ n → n < out.2.2 → ρ n = none) →
    (∀ ρ' v w', Ext ρ ρ' nx out.2.2 → den ρ' out.1 = some v → Sat base ρ' out.2.1.get w' → Keep H.get ρ w out.2.1.get ρ' w' → K (a.put o.dst v) w') → o.wp P a w K Q
theorem step_of_op {P : Program} {base : Nat} {o : Oper} {σ : Sig} {H : Heap} {nx : Nat} {out : Out} (h : OpOK P base o σ H nx out) : StepOK P base o σ H nx out :=
  ⟨h.1, h.2.1, fun ρ a w K Q h1 h2 h3 hK => by
    obtain ⟨ρ', v, w', hr, g1, g2, g3, g4⟩ := h.2.2 ρ a w h1 h2 h3
    unfold Oper.wp
    rcases hr with hr | ⟨rfl, hr⟩
    · rw [hr]; exact hK ρ' v w' g1 g2 g3 g4
    · rw [hr]; exact hK ρ' undef w' g1 g2 g3 g4⟩

abbrev Caller := FuncId → List SV → Heap → Nat → Option Out

/-- A method of what an interface value holds. -/
def evMethod (P : Program) (t : TypeId) (s : SV) (name : String) : Option (FuncId × SV) :=
  match P.info? t with
  | some i => match i.methods.toList.find? (·.name == name) with
    | some m => match m.path.toList, m.func, P.underlying t with
      | [], some (f, true), some (.pointer _) => some (f, s)
      | [], some (_, false), some (.pointer _) => none
      | [], some (f, false), some _ => some (f, s)
      | [st], some (f, true), _ => match s, fieldOf P st.struct st.index with
        | .ptr n off, some fd => match szOf P fd.type, P.underlying fd.type with
          | some k, some d => match d with
            | .pointer _ => none
            | _ => bif st.deref && !Nat.beq k 0 then some (f, .ptr n (off + fd.offset)) else none
          | _, _ => none
        | _, _ => none
      | _, _, _ => none
    | none => none
  | none => none
theorem run_method {P : Program} {t : TypeId} {s : SV} {name : String} {f : FuncId} {r : SV} {ρ : Env} {v : Value} (h : evMethod P t s name = some (f, r)) (hd : den ρ s = some v) (d : Nat) (w : World) :
    ∃ u, (method (d + 1) t v name).run P w = .ok (f, u) w ∧ den ρ r = some u := by
  unfold evMethod at h
  split at h
  case h_2 => cases h
  rename_i i hi
  split at h
  case h_2 => cases h
  rename_i m hm
  have hm' : i.methods.find? (·.name == name) = some m := by rw [← Array.find?_toList]; exact hm
  split at h
  · rename_i f' e hp hf hu
    injection h with h
    injection h with h1 h2
    subst h1
    subst h2
    refine ⟨v, ?_, hd⟩
    simp [method, typeInfo, hi, hm', hp, hf, follow, receiverAt, run_underlying hu, Place.get]
  · cases h
  · rename_i f' d' hne hp hf hu
    injection h with h
    injection h with h1 h2
    subst h1
    subst h2
    refine ⟨v, ?_, hd⟩
    simp only [method, typeInfo, Sem.run_bind, run_program, Result.andThen_ok, hi, Sem.run_pure, hm', hp, follow, hf, receiverAt, run_underlying hu]
    cases d' <;> first | rfl | exact absurd hu (hne _)
  · rename_i st f' hp hf
    split at h
    case h_2 => cases h
    rename_i n off fd hfd
    split at h
    case h_2 => cases h
    rename_i k d2 hk hd2
    split at h
    · cases h
    · rename_i hnp
      cases hb : (st.deref && !Nat.beq k 0) with
      | false => simp [hb] at h
      | true =>
        simp only [hb, cond_true] at h
        injection h with h
        injection h with h1 h2
        subst h1
        subst h2
        simp only [Bool.and_eq_true, Bool.not_eq_true'] at hb
        have hk0 := beq_ne hb.2
        unfold fieldOf at hfd
        split at hfd
        · rename_i fields hfs
          cases hr : ρ n with
          | none => simp [den, hr] at hd
          | some p =>
            simp [den, hr] at hd
            refine ⟨.pointer (some ⟨p.1, off + fd.offset, none⟩), ?_, by simp [den, hr]⟩
            have hpl := run_fieldPlace (P := P) (b := p.1) (off := off) hk hk0 w
            have hrec : ∀ wr, (receiverAt fd.type (.var ⟨p.1, off + fd.offset, none⟩) true wr).run P w = .ok (.pointer (some ⟨p.1, off + fd.offset, none⟩)) w := by
              intro wr
              simp only [receiverAt, Sem.run_bind, run_underlying hd2, Result.andThen_ok]
              cases d2 <;> first | rfl | exact absurd rfl (hnp _)
            simp [method, typeInfo, hi, hm', hp, hf, follow, run_underlying hfs, hfd, hb.1, ← hd, Place.get, asAddr, hpl, hrec]
        · cases hfd
  · cases h

def evCallee (P : Program) (c : Call) (σ : Sig) : Option (FuncId × List SV) :=
  match sigL σ c.args.toList with
  | some ss => match c.callee with
    | .value f => match σ f with
      | some (.lit (.func (.func k) first cap)) => some (k, first.toList.map .lit ++ ss ++ cap.toList.map .lit)
      | some (.fn (.func k) first cap) => some (k, first ++ ss ++ cap)
      | some (.fn (.method name) [.ifc t s] _) => (evMethod P t s name).map fun q => (q.1, q.2 :: ss)
      | _ => none
    | .invoke r name => match σ r with
      | some (.ifc t s) => (evMethod P t s name).map fun q => (q.1, q.2 :: ss)
      | some (.lit (.iface t v)) => (evMethod P t (ofV1 v) name).map fun q => (q.1, q.2 :: ss)
      | _ => none
    | .builtin _ => none
  | none => none
/-- A function that has a body, and is none of the machine's own. -/
def enters (P : Program) (k : FuncId) : Bool :=
  match P.funcs[k]? with
  | some fn => fn.body.isSome
  | none => false
def NoCount (P : Program) : Prop := ∀ fn ∈ P.funcs.toList, (fn.body.isNone || !(fn.name == "runtime.NumGoroutine")) = true
theorem run_callFunc {P : Program} (hP : NoCount P) {k : FuncId} (h : enters P k = true) (args : Array Value) (w : World) : (callFunc k args).run P w = .ok (.enter k args) w := by
  unfold enters at h
  split at h
  · rename_i fn hf
    have hmem : fn ∈ P.funcs.toList := by
      have := Array.mem_of_getElem? hf
      simpa using this
    have h1 := hP fn hmem
    have h2 : fn.body.isNone = false := by
      cases hb : fn.body with
      | none => rw [hb] at h; cases h
      | some b => rfl
    rw [h2, Bool.false_or] at h1
    have h3 : (fn.name == "runtime.NumGoroutine") = false := by simpa using h1
    simp only [callFunc, Sem.run_bind, run_program, Result.andThen_ok, hf, h3, h2, if_false, Bool.false_eq_true]
    rfl
  · cases h
def evOper (P : Program) (call : Caller) (o : Oper) (σ : Sig) (H : Heap) (nx : Nat) : Option Out :=
  match o.op with
  | .call c => match c.callee with
    | .builtin b => evBuiltin P b c o.type σ H nx
    | _ => match evCallee P c σ with
      | some (k, args) => call k args H nx
      | none => none
  | _ => evOp P o σ H nx
section
variable {P : Program} {base : Nat} {o : Oper} {σ : Sig} {H : Heap} {nx : Nat} {out : Out} {call : Caller}
theorem callee_run {c : Call} {k : FuncId} {args : List SV} (ho : o.op = .call c) (h : evCallee P c σ = some (k, args)) {ρ : Env} {a : Act} (hσ : ∀ x ∈ o.op.operands, ∀ s, σ x = some s → den ρ s = some (a.eval x)) (w : World) :
    ∃ vals, (execOp a.eval o).run P w = (callFunc k vals.toArray).run P w ∧ denL ρ args = some vals := by
  unfold evCallee at h
  split at h
  case h_2 => cases h
  rename_i ss hss
  have hargs : denL ρ ss = some (c.args.toList.map a.eval) := sigL_den hss (fun x hx => hσ x (operands_call ho x hx))
  have hcallee : ∀ f, c.callee = .value f → f ∈ o.op.operands := by
    intro f hf
    simp [ho, Op.operands, Call.operands, hf]
  have hrecv : ∀ r name, c.callee = .invoke r name → r ∈ o.op.operands := by
    intro r name hf
    simp [ho, Op.operands, Call.operands, hf]
  have inv : ∀ (r : Operand) (name : String) (t : TypeId) (s q : SV) (v : Value), c.callee = .invoke r name → a.eval r = .iface t v → den ρ s = some v → evMethod P t s name = some (k, q) → ∃ u, (execOp a.eval o).run P w = (callFunc k (#[u] ++ c.args.map a.eval)).run P w ∧ den ρ q = some u := by
    intro r name t s q v hc hv hd hm
    have hfuel : P.types.size + Made.depth = (P.types.size + 99) + 1 := rfl
    obtain ⟨u, hu, hdu⟩ := run_method hm hd (P.types.size + 99) w
    refine ⟨u, ?_, hdu⟩
    have h0 : ∀ (x : Value) (ys : Array Value), (#[x] ++ ys)[0]? = some x := fun x ys => by rw [Array.getElem?_append_left (by simp)]; rfl
    have h1 : (c.args.map a.eval).extract 0 c.args.size = c.args.map a.eval := Array.extract_eq_self_of_le (by simp)
    simp [execOp, ho, resolve, hc, invoke, hv, h0, callMethod, hfuel, hu, h1]
  split at h
  · rename_i f hf
    split at h
    · rename_i k' first cap hs
      injection h with h
      injection h with h1 h2
      subst h1
      have hd := hσ f (hcallee f hf) _ hs
      simp [den] at hd
      refine ⟨first.toList ++ c.args.toList.map a.eval ++ cap.toList, ?_, ?_⟩
      · simp [execOp, ho, resolve, hf, ← hd, Deferred.ofValue, invoke]
        congr 2
        apply Array.ext'
        simp
      · rw [← h2]
        exact denL_append (denL_append (denL_lits _) hargs) (denL_lits _)
    · rename_i k' first cap hs
      injection h with h
      injection h with h1 h2
      subst h1
      have hd := hσ f (hcallee f hf) _ hs
      cases ha : denL ρ first with
      | none => simp [den, ha] at hd
      | some x =>
        cases hb : denL ρ cap with
        | none => simp [den, ha, hb] at hd
        | some y =>
          simp [den, ha, hb] at hd
          refine ⟨x ++ c.args.toList.map a.eval ++ y, ?_, ?_⟩
          · simp [execOp, ho, resolve, hf, ← hd, Deferred.ofValue, invoke]
            congr 2
            apply Array.ext'
            simp
          · rw [← h2]
            exact denL_append (denL_append ha hargs) hb
    · rename_i name t s cap hs
      cases hm : evMethod P t s name with
      | none => simp [hm] at h
      | some q =>
        obtain ⟨f', q⟩ := q
        simp [hm] at h
        obtain ⟨h1, h2⟩ := h
        subst h1
        have hd := hσ f (hcallee f hf) _ hs
        cases hv : den ρ s with
        | none => simp [den, denL, hv] at hd
        | some v =>
          cases hyy : denL ρ cap with
          | none => simp [den, denL, hv, hyy] at hd
          | some ys =>
            simp [den, denL, hv, hyy] at hd
            have hfuel : P.types.size + Made.depth = (P.types.size + 99) + 1 := rfl
            obtain ⟨u, hu, hdu⟩ := run_method hm hv (P.types.size + 99) w
            have h0 : ∀ (x : Value) (ys : Array Value), (#[x] ++ ys)[0]? = some x := fun x ys => by rw [Array.getElem?_append_left (by simp)]; rfl
            have h1 : (c.args.map a.eval).extract 0 c.args.size = c.args.map a.eval := Array.extract_eq_self_of_le (by simp)
            refine ⟨u :: c.args.toList.map a.eval, ?_, ?_⟩
            · have harr : (u :: c.args.toList.map a.eval).toArray = #[u] ++ c.args.map a.eval := by simp
              rw [harr]
              simp [execOp, ho, resolve, hf, ← hd, Deferred.ofValue, invoke, h0, callMethod, hfuel, hu, h1]
            · rw [← h2]; exact denL_cons.2 ⟨u, _, hdu, hargs, rfl⟩
    · cases h
  · rename_i r name hf
    split at h
    · rename_i t s hs
      cases hm : evMethod P t s name with
      | none => simp [hm] at h
      | some q =>
        obtain ⟨f, q⟩ := q
        simp [hm] at h
        obtain ⟨h1, h2⟩ := h
        subst h1
        have hd := hσ r (hrecv r name hf) _ hs
        cases hv : den ρ s with
        | none => simp [den, hv] at hd
        | some v =>
          simp [den, hv] at hd
          obtain ⟨u, hu, hdu⟩ := inv r name t s q v hf hd.symm hv hm
          refine ⟨u :: c.args.toList.map a.eval, ?_, ?_⟩
          · rw [hu]; congr 2; simp
          · rw [← h2]; exact denL_cons.2 ⟨u, _, hdu, hargs, rfl⟩
    · rename_i t v hs
      cases hm : evMethod P t (ofV1 v) name with
      | none => simp [hm] at h
      | some q =>
        obtain ⟨f, q⟩ := q
        simp [hm] at h
        obtain ⟨h1, h2⟩ := h
        subst h1
        have hd := hσ r (hrecv r name hf) _ hs
        simp [den] at hd
        obtain ⟨u, hu, hdu⟩ := inv r name t _ q v hf hd.symm (den_ofV1 ρ v) hm
        refine ⟨u :: c.args.toList.map a.eval, ?_, ?_⟩
        · rw [hu]; congr 2; simp
        · rw [← h2]; exact denL_cons.2 ⟨u, _, hdu, hargs, rfl⟩
    · cases h
  · cases h
theorem step_ok (hP : NoCount P) (hcall : ∀ k args H nx out, call k args H nx = some out → CallOK P base k args H nx out) (h : evOper P call o σ H nx = some out) : StepOK P base o σ H nx out := by
  unfold evOper at h
  split at h
  · rename_i c ho
    split at h
    · rename_i b hb
      exact step_of_op (ok_op (by simp only [evOp, ho, hb]; exact h))
    · split at h
      · rename_i k args hk
        obtain ⟨h1, hdm, h2⟩ := hcall k args H nx out h
        refine ⟨h1, hdm, fun ρ a w K Q hσ hs hf hK => ?_⟩
        obtain ⟨vals, hv, hd⟩ := callee_run ho hk hσ w
        unfold Oper.wp
        rcases h2 ρ vals w hd hs hf with ⟨g1, g2⟩ | ⟨ρ', v, w', g1, g2, g3, g4, g5⟩
        · rw [hv, g1, Oper.upon_enter]
          refine g2.mono ?_
          rintro e w' ⟨ρ', v, rfl, g1, g2, g3, g4⟩
          exact hK ρ' v w' g1 g2 g3 g4
        · rw [hv, g1]
          exact hK ρ' v w' g2 g3 g4 g5
      · cases h
  · exact step_of_op (ok_op h)
end

/-- Temporaries over names. -/
structure TSat (ρ : Env) (T : Nat → Option SV) (nt : Nat) (a : Act) : Prop where
  size : a.tmps.size = nt
  defers : a.defers = []
  held : ∀ t s, T t = some s → ∃ v, a.tmps[t]? = some v ∧ den ρ s = some v
theorem TSat.more {ρ ρ' : Env} {T : Nat → Option SV} {nt : Nat} {a : Act} (h : TSat ρ T nt a) (hm : More ρ ρ') : TSat ρ' T nt a :=
  ⟨h.size, h.defers, fun t s e => by obtain ⟨v, h1, h2⟩ := h.held t s e; exact ⟨v, h1, den_more hm s v h2⟩⟩
def sig (T : Nat → Option SV) : Sig
  | .tmp t => T t
  | .const v => some (ofV v)
  | .func f => some (.lit (.func (.func f) #[] #[]))
  | .global _ => none
theorem TSat.sig {ρ : Env} {T : Nat → Option SV} {nt : Nat} {a : Act} (h : TSat ρ T nt a) (x : Operand) (s : SV) (e : Ev.sig T x = some s) : den ρ s = some (a.eval x) := by
  cases x with
  | tmp t =>
    obtain ⟨v, h1, h2⟩ := h.held t s e
    rw [h2]
    simp [Act.eval, Array.getD_eq_getD_getElem?, h1]
  | const v =>
    simp only [Ev.sig] at e
    injection e with e
    subst e
    exact den_ofV ρ v
  | func f =>
    simp only [Ev.sig] at e
    injection e with e
    subst e
    rfl
  | global g => cases e
def putT (T : PT SV) (nt : Nat) (dst : Option Tmp) (s : SV) : Option (PT SV) :=
  match dst with
  | none => some T
  | some d => bif Nat.blt d nt then some (T.put d (some s)) else none
theorem putT_sat {ρ : Env} {T T' : PT SV} {nt : Nat} {a : Act} {dst : Option Tmp} {s : SV} {v : Value} (h : TSat ρ T.get nt a) (hp : putT T nt dst s = some T') (hd : den ρ s = some v) : TSat ρ T'.get nt (a.put dst v) := by
  cases dst with
  | none => simp [putT] at hp; subst hp; exact h
  | some d =>
    simp only [putT] at hp
    cases hb : Nat.blt d nt with
    | false => simp [hb] at hp
    | true =>
      simp only [hb, cond_true] at hp
      injection hp with hp
      subst hp
      have hlt : d < nt := ble_true hb
      refine ⟨by simp [Act.put, h.size], h.defers, fun t q e => ?_⟩
      rw [PT.get_put] at e
      by_cases ht : t = d
      · rw [if_pos ht] at e
        injection e with e
        subst e
        subst ht
        exact ⟨v, by simp [Act.put, h.size, hlt], hd⟩
      · rw [if_neg ht] at e
        obtain ⟨u, h1, h2⟩ := h.held t q e
        refine ⟨u, ?_, h2⟩
        simp only [Act.put]
        rw [Array.getElem?_setIfInBounds_ne (by omega)]
        exact h1
/-- Is an operation wanted? -/
def wantS (ops : Array Oper) (T : Nat → Option SV) (o : Oper) : Option Bool :=
  match o.guard with
  | none => some true
  | some (j, want) => match (ops[j]?).bind (·.dst) with
    | none => some false
    | some d => match T d with
      | some (.lit (.bool b)) => some (b == want)
      | some _ => some false
      | none => none
theorem den_bool {ρ : Env} {s : SV} {b : Bool} (h : den ρ s = some (.bool b)) : s = .lit (.bool b) := by
  cases s with
  | lit v => simp [den] at h; rw [h]
  | ptr n o => cases hr : ρ n <;> simp [den, hr] at h
  | sl n o len cap k =>
    cases hr : ρ n with
    | none => simp [den, hr] at h
    | some p => obtain ⟨c, hv, _⟩ := den_sl hr h; cases hv
  | agg l => cases hr : denL ρ l <;> simp [den, hr] at h
  | tup l => cases hr : denL ρ l <;> simp [den, hr] at h
  | ifc t s => cases hr : den ρ s <;> simp [den, hr] at h
  | fn f x y =>
    cases hx : denL ρ x with
    | none => simp [den, hx] at h
    | some u => cases hy : denL ρ y <;> simp [den, hx, hy] at h
  | mp n => cases hr : ρ n <;> simp [den, hr] at h
  | cut n o l k =>
    cases hr : ρ n with
    | none => simp [den, hr] at h
    | some p =>
      simp only [den, hr, Option.bind_some] at h
      split at h
      · injection h with h; cases h
      · cases h
theorem want_ok {ρ : Env} {ops : Array Oper} {T : Nat → Option SV} {nt : Nat} {a : Act} {o : Oper} {b : Bool} (h : wantS ops T o = some b) (hT : ∀ j want d s, o.guard = some (j, want) → (ops[j]?).bind (·.dst) = some d → T d = some s → ∃ v, a.tmps[d]? = some v ∧ den ρ s = some v) : Region.wanted o (yielded ops a.tmps) = b := by
  unfold wantS at h
  split at h
  · rename_i hg
    injection h with h
    subst h
    simp [Region.wanted, hg]
  · rename_i j want hg
    split at h
    · rename_i hd
      injection h with h
      subst h
      simp [Region.wanted, hg, yielded, hd]
    · rename_i d hd
      split at h
      · rename_i b' hT'
        injection h with h
        subst h
        obtain ⟨v, h1, h2⟩ := hT j want d _ hg hd hT'
        simp [den] at h2
        subst h2
        simp [Region.wanted, hg, yielded, hd, h1]
      · rename_i s hT' hns
        injection h with h
        subst h
        obtain ⟨v, h1, h2⟩ := hT j want d _ hg hd hns
        have hnb : ∀ b, v ≠ .bool b := fun b e => by
          subst e
          have := den_bool h2
          exact hT' b this
        have hy : yielded ops a.tmps j = none := by
          simp only [yielded, hd, Option.bind_some, h1]
          cases v <;> first | rfl | exact absurd rfl (hnb _)
        simp [Region.wanted, hg, hy]
      · cases h

abbrev St := PT SV × Heap × Nat
def stepS (P : Program) (call : Caller) (ops : Array Oper) (nt : Nat) (o : Oper) (st : St) : Option St :=
  match wantS ops st.1.get o with
  | some true => match evOper P call o (sig st.1.get) st.2.1 st.2.2 with
    | some (s, H', nx') => match putT st.1 nt o.dst s with
      | some T' => some (T', H', nx')
      | none => none
    | none => none
  | some false => match putT st.1 nt o.dst (.lit undef) with
    | some T' => some (T', st.2.1, st.2.2)
    | none => none
  | none => none
section
variable {P : Program} {base : Nat} {call : Caller} {ops : Array Oper} {nt : Nat}
theorem stepS_ok (hP : NoCount P) (hcall : ∀ k args H nx out, call k args H nx = some out → CallOK P base k args H nx out) {i : Nat} {o : Oper} (hi : ops[i]? = some o) {st st' : St} (h : stepS P call ops nt o st = some st') :
    st.2.2 ≤ st'.2.2 ∧ DomOK st.2.1.get st'.2.1.get st.2.2 st'.2.2 ∧ ∀ (ρ : Env) (a : Act) (w : World) (K : Act → World → Prop) (Q : Exit → Act → World → Prop), TSat ρ st.1.get nt a → Sat base ρ st.2.1.get w → (∀ n, st.2.2 ≤ n → n < st'.2.2 → ρ n = none) →
      (∀ ρ' a' w', Ext ρ ρ' st.2.2 st'.2.2 → TSat ρ' st'.1.get nt a' → Sat base ρ' st'.2.1.get w' → Keep st.2.1.get ρ w st'.2.1.get ρ' w' → K a' w') → wpOp P ops Q i K a w := by
  obtain ⟨T, H, nx⟩ := st
  unfold stepS at h
  simp only at h
  have hT : ∀ (ρ : Env) (a : Act), TSat ρ T.get nt a → ∀ j want d s, o.guard = some (j, want) → (ops[j]?).bind (·.dst) = some d → T.get d = some s → ∃ v, a.tmps[d]? = some v ∧ den ρ s = some v :=
    fun ρ a h j want d s _ _ e => h.held d s e
  split at h
  · rename_i hw
    split at h
    · rename_i s H' nx' he
      split at h
      · rename_i T' hp
        injection h with h
        subst h
        obtain ⟨h1, hdm, h2⟩ := step_ok hP hcall he
        refine ⟨h1, hdm, fun ρ a w K Q hta hs hf hK => ?_⟩
        unfold wpOp
        rw [hi]
        simp only []
        rw [want_ok (nt := nt) hw (hT ρ a hta), if_pos rfl]
        refine .inl (h2 ρ a w _ Q (fun x _ s e => hta.sig x s e) hs hf fun ρ' v w' g1 g2 g3 g4 => ?_)
        exact hK ρ' _ w' g1 (putT_sat (hta.more g1.more) hp g2) g3 g4
      · cases h
    · cases h
  · rename_i hw
    split at h
    · rename_i T' hp
      injection h with h
      subst h
      refine ⟨Nat.le_refl _, DomOK.refl _ _ _, fun ρ a w K Q hta hs hf hK => ?_⟩
      unfold wpOp
      rw [hi]
      simp only []
      rw [want_ok (nt := nt) hw (hT ρ a hta), if_neg (by simp)]
      exact hK ρ _ w (Ext.refl _ _ _) (putT_sat hta hp rfl) hs (Keep.refl _ _ _)
    · cases h
  · cases h

/-- Operations one behind the other. -/
def evOps (P : Program) (call : Caller) (ops : Array Oper) (nt : Nat) : List Oper → St → Option St
  | [], st => some st
  | o :: rest, st => match stepS P call ops nt o st with
    | some st' => evOps P call ops nt rest st'
    | none => none
theorem evOps_ok (hP : NoCount P) (hcall : ∀ k args H nx out, call k args H nx = some out → CallOK P base k args H nx out) : ∀ (l : List Oper) (k : Nat) (st st' : St), (∀ j, l[j]? = ops[k + j]?) → evOps P call ops nt l st = some st' →
    st.2.2 ≤ st'.2.2 ∧ DomOK st.2.1.get st'.2.1.get st.2.2 st'.2.2 ∧ ∀ (ρ : Env) (a : Act) (w : World) (Q : Exit → Act → World → Prop), TSat ρ st.1.get nt a → Sat base ρ st.2.1.get w → (∀ n, st.2.2 ≤ n → n < st'.2.2 → ρ n = none) →
      (∀ ρ' a' w', Ext ρ ρ' st.2.2 st'.2.2 → TSat ρ' st'.1.get nt a' → Sat base ρ' st'.2.1.get w' → Keep st.2.1.get ρ w st'.2.1.get ρ' w' → Q .normal a' w') → wpOps P ops Q (List.range' k l.length) a w
  | [], k, st, st', hl, h => by
    simp [evOps] at h
    subst h
    exact ⟨Nat.le_refl _, DomOK.refl _ _ _, fun ρ a w Q hta hs hf hK => hK ρ a w (Ext.refl _ _ _) hta hs (Keep.refl _ _ _)⟩
  | o :: rest, k, st, st', hl, h => by
    simp only [evOps] at h
    split at h
    · rename_i st1 h1
      have hi : ops[k]? = some o := by have := hl 0; simpa using this.symm
      obtain ⟨s1, sd, s2⟩ := stepS_ok hP hcall hi h1
      obtain ⟨r1, rd, r2⟩ := evOps_ok hP hcall rest (k + 1) st1 st' (fun j => by have := hl (j + 1); simp only [List.getElem?_cons_succ] at this; rw [this]; congr 1; omega) h
      refine ⟨Nat.le_trans s1 r1, sd.trans rd s1 r1, fun ρ a w Q hta hs hf hK => ?_⟩
      rw [show List.range' k (o :: rest).length = k :: List.range' (k + 1) rest.length from rfl, wpOps_cons]
      refine s2 ρ a w _ Q hta hs (fun n h1 h2 => hf n h1 (by omega)) fun ρ' a' w' g1 g2 g3 g4 => ?_
      refine r2 ρ' a' w' Q g2 g3 (fun n h1 h2 => ?_) fun ρ'' a'' w'' k1 k2 k3 k4 => ?_
      · rw [g1.off n (.inr h1)]
        exact hf n (by omega) h2
      · exact hK ρ'' a'' w'' (g1.trans k1 s1 r1) k2 k3 (g4.trans k4)
    · cases h
theorem region_ok (hP : NoCount P) (hcall : ∀ k args H nx out, call k args H nx = some out → CallOK P base k args H nx out) {id : Nat} {st st' : St} (h : evOps P call ops nt ops.toList st = some st') :
    st.2.2 ≤ st'.2.2 ∧ DomOK st.2.1.get st'.2.1.get st.2.2 st'.2.2 ∧ ∀ (ρ : Env) (a : Act) (w : World) (Q : Exit → Act → World → Prop), TSat ρ st.1.get nt a → Sat base ρ st.2.1.get w → (∀ n, st.2.2 ≤ n → n < st'.2.2 → ρ n = none) →
      (∀ ρ' a' w', Ext ρ ρ' st.2.2 st'.2.2 → TSat ρ' st'.1.get nt a' → Sat base ρ' st'.2.1.get w' → Keep st.2.1.get ρ w st'.2.1.get ρ' w' → Q .normal a' w') → (Code.region id ops false).wp P Q a w := by
  obtain ⟨h1, hdm, h2⟩ := evOps_ok hP hcall ops.toList 0 st st' (fun j => by simp) h
  refine ⟨h1, hdm, fun ρ a w Q hta hs hf hK => wp_region ?_⟩
  have := h2 ρ a w Q hta hs hf hK
  rwa [Array.length_toList, ← List.range_eq_range'] at this
end
end Ev
end Go.Proofs.YtekhboekiehdhaaGreatDoor
