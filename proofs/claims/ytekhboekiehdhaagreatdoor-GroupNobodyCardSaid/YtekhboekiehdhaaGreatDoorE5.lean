/- More operations over names: slicing, lengths, append. -/
import Derived.Test.YtekhboekiehdhaaGreatDoorE4
set_option linter.unusedVariables false
set_option linter.unusedSimpArgs false
namespace Go.Proofs.YtekhboekiehdhaaGreatDoor
namespace Ev
open Go.RowKit

section
variable {P : Program} {base : Nat} {o : Oper} {σ : Sig} {H : Heap} {nx : Nat} {out : Out}

def valI (x : IntKind × Nat) : Value := .int x.1 x.2
def MxOK (mx : Option (IntKind × Nat)) (c m : Nat) : Prop := match mx with | some x => x.2 ≤ c ∧ m = x.2 | none => m = c
def HiOK (hi mx : Option (IntKind × Nat)) (m len h : Nat) : Prop := match hi with | some x => x.2 ≤ m ∧ h = x.2 | none => mx = none ∧ h = len
def LoOK (lo : Option (IntKind × Nat)) (h l : Nat) : Prop := match lo with | some x => x.2 ≤ h ∧ l = x.2 | none => l = 0
theorem run_sliceS {t e : TypeId} {k : Nat} (hu : P.underlying t = some (.slice e)) (hk : szOf P e = some k) (a : Option Addr) (len cap : Nat) (lo hi mx : Option (IntKind × Nat)) (l h m : Nat)
    (hm : MxOK mx cap m) (hh : HiOK hi mx m len h) (hl : LoOK lo h l) (w : World) :
    (Instr.sliceAt t (.slice a len cap) (lo.map valI) (hi.map valI) (mx.map valI)).run P w = .ok (.slice (if m = l then a else a.map (·.add (l * k))) (h - l) (m - l)) w := by
  have hsz := run_size hk w
  unfold MxOK at hm
  unfold HiOK at hh
  unfold LoOK at hl
  cases mx with
  | none =>
    subst hm
    cases hi with
    | none =>
      obtain ⟨_, rfl⟩ := hh
      cases lo with
      | none => subst hl; simp [Instr.sliceAt, Instr.slice, Instr.sliceBounds, run_underlying hu, hsz]
      | some x => obtain ⟨h2, rfl⟩ := hl; simp [Instr.sliceAt, Instr.slice, Instr.sliceBounds, Instr.sliceBound, asIntOf, valI, run_underlying hu, hsz, h2]
    | some y =>
      obtain ⟨h4, rfl⟩ := hh
      cases lo with
      | none => subst hl; simp [Instr.sliceAt, Instr.slice, Instr.sliceBounds, Instr.sliceBound, asIntOf, valI, run_underlying hu, hsz, h4]
      | some x => obtain ⟨h2, rfl⟩ := hl; simp [Instr.sliceAt, Instr.slice, Instr.sliceBounds, Instr.sliceBound, asIntOf, valI, run_underlying hu, hsz, h2, h4]
  | some z =>
    obtain ⟨h6, rfl⟩ := hm
    cases hi with
    | none => obtain ⟨h, _⟩ := hh; cases h
    | some y =>
      obtain ⟨h4, rfl⟩ := hh
      cases lo with
      | none => subst hl; simp [Instr.sliceAt, Instr.slice, Instr.sliceBounds, Instr.sliceBound, asIntOf, valI, run_underlying hu, hsz, h4, h6]
      | some x => obtain ⟨h2, rfl⟩ := hl; simp [Instr.sliceAt, Instr.slice, Instr.sliceBounds, Instr.sliceBound, asIntOf, valI, run_underlying hu, hsz, h2, h4, h6]

def natI (x : IntKind × Int) : Option (IntKind × Nat) := if 0 ≤ x.2 then some (x.1, x.2.toNat) else none
/-- An operand that may be absent: a number. -/
def optI (σ : Sig) : Option Operand → Option (Option (IntKind × Nat))
  | none => some none
  | some x => match σ x with
    | some s => match intOfS s with
      | some q => (natI q).map some
      | none => none
    | none => none
theorem optI_den {ρ : Env} {a : Act} {x : Option Operand} {r : Option (IntKind × Nat)} (h : optI σ x = some r) (hd : ∀ y ∈ x.toList, ∀ s, σ y = some s → den ρ s = some (a.eval y)) : x.map a.eval = r.map valI := by
  cases x with
  | none => simp [optI] at h; subst h; rfl
  | some y =>
    simp only [optI] at h
    split at h
    · rename_i s hs
      split at h
      · rename_i q hi
        obtain ⟨k, i⟩ := q
        unfold natI at h
        split at h
        · rename_i h0
          simp at h
          subst h
          have := intOfS_den hi (hd y (by simp) s hs)
          simp only [Option.map_some, this, valI]
          congr 2
          exact (Int.toNat_of_nonneg h0).symm
        · cases h
      · cases h
    · cases h
def loI (lo : Option (IntKind × Nat)) : Nat := match lo with | some x => x.2 | none => 0
def hiI (hi : Option (IntKind × Nat)) (len : Nat) : Nat := match hi with | some y => y.2 | none => len
theorem loOK {lo : Option (IntKind × Nat)} {h : Nat} (k : loI lo ≤ h) : LoOK lo h (loI lo) := by
  cases lo with
  | none => rfl
  | some x => exact ⟨k, rfl⟩
theorem hiOK {hi : Option (IntKind × Nat)} {m len : Nat} (k : hiI hi len ≤ m) : HiOK hi none m len (hiI hi len) := by
  cases hi with
  | none => exact ⟨rfl, rfl⟩
  | some x => exact ⟨k, rfl⟩
def cutS (off len lb : Nat) (cap : Option Nat) (k : Nat) (lo hi mx : Option (IntKind × Nat)) : Option (Nat × Nat × Option Nat) :=
  let l := loI lo
  match mx, hi, cap with
  | some z, some y, _ => bif Nat.ble z.2 (cap.getD lb) && Nat.ble y.2 z.2 && Nat.ble l y.2 then some (if z.2 = l then off else off + l * k, y.2 - l, some (z.2 - l)) else none
  | some _, none, _ => none
  | none, _, some c =>
    let h := hiI hi len
    bif Nat.ble h c && Nat.ble l h then some (if c = l then off else off + l * k, h - l, some (c - l)) else none
  | none, _, none =>
    let h := hiI hi len
    bif Nat.ble h lb && Nat.ble l h && (Nat.blt l lb || Nat.beq l 0) then some (off + l * k, h - l, none) else none
def CapOK (sz off len k : Nat) (cap : Option Nat) (c : Nat) : Prop := match cap with | some c0 => c = c0 | none => c = (sz - off) / k ∧ off + len * k ≤ sz
theorem CapOK.le {sz off len k c : Nat} (h : CapOK sz off len k none c) (hk : 0 < k) : len ≤ c := by
  obtain ⟨h1, h2⟩ := h
  rw [h1]
  exact (Nat.le_div_iff_mul_le hk).2 (by omega)
theorem den_sl {ρ : Env} {n off len k : Nat} {cap : Option Nat} {p : Nat × Nat} {v : Value} (hr : ρ n = some p) (h : den ρ (.sl n off len cap k) = some v) : ∃ c, v = .slice (some ⟨p.1, off, none⟩) len c ∧ CapOK p.2 off len k cap c := by
  simp only [den, hr, Option.bind_some] at h
  cases cap with
  | some c => simp at h; exact ⟨c, h.symm, rfl⟩
  | none =>
    simp only at h
    split at h
    · rename_i hf
      injection h with h
      exact ⟨_, h.symm, rfl, hf⟩
    · cases h
theorem sl_den {ρ : Env} {n off len k c : Nat} {cap : Option Nat} {p : Nat × Nat} (hr : ρ n = some p) (h : CapOK p.2 off len k cap c) : den ρ (.sl n off len cap k) = some (.slice (some ⟨p.1, off, none⟩) len c) := by
  simp only [den, hr, Option.bind_some]
  cases cap with
  | some c0 => simp only; rw [show c = c0 from h]
  | none => simp only; rw [if_pos h.2, h.1]
theorem lb_le {sz off lb k : Nat} (hk : 0 < k) (h : off + lb * k ≤ sz) : lb ≤ (sz - off) / k := (Nat.le_div_iff_mul_le hk).2 (by omega)
theorem cutS_spec {sz off len lb k c : Nat} {cap : Option Nat} {lo hi mx : Option (IntKind × Nat)} {off' len' : Nat} {cap' : Option Nat} (h : cutS off len lb cap k lo hi mx = some (off', len', cap')) (hk : 0 < k) (hc : CapOK sz off len k cap c) (hlb : cap = none → off + lb * k ≤ sz) :
    ∃ l hh m, MxOK mx c m ∧ HiOK hi mx m len hh ∧ LoOK lo hh l ∧
      (if m = l then off else off + l * k) = off' ∧ hh - l = len' ∧ CapOK sz off' len' k cap' (m - l) := by
  simp only [cutS] at h
  split at h
  · rename_i z y
    cases hb : (Nat.ble z.2 (cap.getD lb) && Nat.ble y.2 z.2 && Nat.ble (loI lo) y.2) with
    | false => simp [hb] at h
    | true =>
      simp only [hb, cond_true] at h
      simp only [Bool.and_eq_true] at hb
      have b1 := ble_true hb.1.1
      have b2 := ble_true hb.1.2
      have b3 := ble_true hb.2
      simp only [Option.some.injEq, Prod.mk.injEq] at h
      obtain ⟨h1, h2, h3⟩ := h
      have hzc : z.2 ≤ c := by
        cases cap with
        | some c0 => rw [show c = c0 from hc]; exact b1
        | none =>
          have := lb_le hk (hlb rfl)
          have := hc.1
          simp at b1
          omega
      exact ⟨loI lo, y.2, z.2, ⟨hzc, rfl⟩, ⟨b2, rfl⟩, loOK b3, h1, h2, by rw [← h3]; rfl⟩
  · cases h
  · rename_i c0
    cases hb : (Nat.ble (hiI hi len) c0 && Nat.ble (loI lo) (hiI hi len)) with
    | false => simp [hb] at h
    | true =>
      simp only [hb, cond_true] at h
      simp only [Bool.and_eq_true] at hb
      have b1 := ble_true hb.1
      have b2 := ble_true hb.2
      simp only [Option.some.injEq, Prod.mk.injEq] at h
      obtain ⟨h1, h2, h3⟩ := h
      have hc' : c = c0 := hc
      subst hc'
      exact ⟨loI lo, hiI hi len, c, rfl, hiOK b1, loOK b2, h1, h2, by rw [← h3]; rfl⟩
  · cases hb : (Nat.ble (hiI hi len) lb && Nat.ble (loI lo) (hiI hi len) && (Nat.blt (loI lo) lb || Nat.beq (loI lo) 0)) with
    | false => simp [hb] at h
    | true =>
      simp only [hb, cond_true] at h
      simp only [Bool.and_eq_true] at hb
      have b1 := ble_true hb.1.1
      have b2 := ble_true hb.1.2
      have b3 : loI lo < lb ∨ loI lo = 0 := by
        rcases Bool.or_eq_true _ _ ▸ hb.2 with h | h
        · exact .inl (ble_true h)
        · exact .inr (Nat.eq_of_beq_eq_true h)
      simp only [Option.some.injEq, Prod.mk.injEq] at h
      obtain ⟨h1, h2, h3⟩ := h
      have hle := lb_le hk (hlb rfl)
      have hfit := hlb rfl
      obtain ⟨hcc, _⟩ := hc
      refine ⟨loI lo, hiI hi len, c, rfl, hiOK (by omega), loOK b2, ?_, h2, ?_⟩
      · rw [← h1]
        rcases b3 with b3 | b3
        · rw [if_neg (by omega)]
        · rw [b3]; split <;> omega
      · rw [← h3]
        have hmul : loI lo * k + (len' * k) ≤ lb * k := by
          rw [← Nat.add_mul]
          exact Nat.mul_le_mul_right _ (by omega)
        refine ⟨?_, by omega⟩
        rw [hcc, ← h1, Nat.sub_add_eq, Nat.mul_comm (loI lo) k, Nat.sub_mul_div]
theorem addr_if (b off l k : Nat) (c : Prop) [Decidable c] : (if c then (some (⟨b, off, none⟩ : Addr)) else some ⟨b, off + l * k, none⟩) = some ⟨b, if c then off else off + l * k, none⟩ := by split <;> rfl
/-- So many elements there is room for, at the least. -/
def lbOf (H : Heap) (n off len k : Nat) : Nat :=
  match H.get n with
  | some ⟨_, .row cs _ _⟩ => bif Nat.ble (off + len * k) cs.length then (cs.length - off) / k else len
  | _ => len
theorem lbOf_ok {ρ : Env} {w : World} {n off len k c : Nat} {p : Nat × Nat} (hs : Sat base ρ H.get w) (hr : ρ n = some p) (hc : CapOK p.2 off len k none c) : off + lbOf H n off len k * k ≤ p.2 := by
  unfold lbOf
  split
  · rename_i lk cs e slack hg
    cases hb : Nat.ble (off + len * k) cs.length with
    | false => exact hc.2
    | true =>
      simp only [cond_true]
      obtain ⟨b, vs, rest, h1, h2, h3, h4⟩ := hs.row hg
      rw [hr] at h1
      injection h1 with h1
      subst h1
      have hlen := denL_length h3
      have := Nat.div_mul_le_self (cs.length - off) k
      have := ble_true hb
      simp
      omega
  · exact hc.2
def evSliceS (P : Program) (t : TypeId) (s : SV) (H : Heap) (lo hi mx : Option (IntKind × Nat)) : Option SV :=
  match s, P.underlying t with
  | .sl n off len cap k, some (.slice e) => match szOf P e with
    | some k' => bif Nat.beq k' k && !Nat.beq k 0 then
        match cutS off len (lbOf H n off len k) cap k lo hi mx with
        | some r => some (.sl n r.1 r.2.1 r.2.2 k)
        | none => match cap, mx with
          | none, none => bif Nat.beq (loI lo) len && Nat.beq (hiI hi len) len then some (.cut n off len k) else none
          | _, _ => none
      else none
    | none => none
  | _, _ => none
theorem ok_sliceS {t : TypeId} {x : Operand} {lo hi mx : Option Operand} {li hj mk : Option (IntKind × Nat)} {s q : SV} (ho : o.op = .slice t x lo hi mx) (hx : σ x = some s) (h1 : optI σ lo = some li) (h2 : optI σ hi = some hj) (h3 : optI σ mx = some mk)
    (h : evSliceS P t s H li hj mk = some q) : OpOK P base o σ H nx (q, H, nx) := by
  refine ok_still fun ρ a w hσ hs => ?_
  have hd := hσ x (by simp [ho, Op.operands]) s hx
  have e1 := optI_den (ρ := ρ) (a := a) h1 (fun y hy => hσ y (by simp [ho, Op.operands]; simp at hy; simp [hy]))
  have e2 := optI_den (ρ := ρ) (a := a) h2 (fun y hy => hσ y (by simp [ho, Op.operands]; simp at hy; simp [hy]))
  have e3 := optI_den (ρ := ρ) (a := a) h3 (fun y hy => hσ y (by simp [ho, Op.operands]; simp at hy; simp [hy]))
  unfold evSliceS at h
  split at h
  · rename_i n off len cap k e hu
    split at h
    · rename_i k' hk
      cases hkk : (Nat.beq k' k && !Nat.beq k 0) with
      | false => simp [hkk] at h
      | true =>
        simp only [hkk, cond_true] at h
        simp only [Bool.and_eq_true, Bool.not_eq_true'] at hkk
        have hkk' : k' = k := Nat.eq_of_beq_eq_true hkk.1
        have hk0 := beq_ne hkk.2
        rw [hkk'] at hk
        cases hc : cutS off len (lbOf H n off len k) cap k li hj mk with
        | none =>
          simp only [hc] at h
          split at h
          · rename_i hcap hmk
            cases hb : (Nat.beq (loI li) len && Nat.beq (hiI hj len) len) with
            | false => simp [hb] at h
            | true =>
              simp only [hb, cond_true] at h
              injection h with h
              subst h
              simp only [Bool.and_eq_true] at hb
              have hl : loI li = len := Nat.eq_of_beq_eq_true hb.1
              have hh : hiI hj len = len := Nat.eq_of_beq_eq_true hb.2
              cases hr : ρ n with
              | none => simp [den, hr] at hd
              | some p =>
                obtain ⟨c, hv, hcap'⟩ := den_sl hr hd
                have hle := hcap'.le (by omega)
                obtain ⟨hc1, hc2⟩ := hcap'
                have hrun := run_sliceS hu hk (some ⟨p.1, off, none⟩) len c li hj none (loI li) (hiI hj len) c rfl (hiOK (by omega)) (loOK (by omega)) w
                simp only [Option.map_some, Option.map_none, Addr.add_lit, addr_if, hl, hh, Nat.sub_self] at hrun
                refine ⟨.slice (some ⟨p.1, if c = len then off else off + len * k, none⟩) 0 (c - len), by simp [execOp, ho, e1, e2, e3, hv, hrun], ?_⟩
                simp only [den, hr, Option.bind_some]
                rw [if_pos hc2, hc1]
          · cases h
        | some r =>
          obtain ⟨off', len', cap'⟩ := r
          simp only [hc, Option.some.injEq] at h
          subst h
          cases hr : ρ n with
          | none => simp [den, hr] at hd
          | some p =>
            obtain ⟨c, hv, hcap⟩ := den_sl hr hd
            obtain ⟨l, hh, m, g1, g2, g3, g4, g5, g6⟩ := cutS_spec hc (by omega) hcap (fun e => by subst e; exact lbOf_ok hs hr hcap)
            refine ⟨_, ?_, sl_den hr g6⟩
            have hrun := run_sliceS hu hk (some ⟨p.1, off, none⟩) len c li hj mk l hh m g1 g2 g3 w
            simp only [Option.map_some, Addr.add_lit, addr_if, g4, g5] at hrun
            simp [execOp, ho, e1, e2, e3, hv, hrun]
    · cases h
  · cases h
/-- Slicing of a string, or of a slice that is none. -/
def evSliceP (P : Program) (t : TypeId) (s : SV) (lo hi mx : Option (IntKind × Nat)) : Option SV :=
  match plain s with
  | some v => (pr P (Instr.sliceAt t v (lo.map valI) (hi.map valI) (mx.map valI))).map ofV
  | none => none
theorem ok_sliceP {t : TypeId} {x : Operand} {lo hi mx : Option Operand} {li hj mk : Option (IntKind × Nat)} {s q : SV} (ho : o.op = .slice t x lo hi mx) (hx : σ x = some s) (h1 : optI σ lo = some li) (h2 : optI σ hi = some hj) (h3 : optI σ mx = some mk)
    (h : evSliceP P t s li hj mk = some q) : OpOK P base o σ H nx (q, H, nx) := by
  refine ok_still fun ρ a w hσ hs => ?_
  have hd := hσ x (by simp [ho, Op.operands]) s hx
  have e1 := optI_den (ρ := ρ) (a := a) h1 (fun y hy => hσ y (by simp [ho, Op.operands]; simp at hy; simp [hy]))
  have e2 := optI_den (ρ := ρ) (a := a) h2 (fun y hy => hσ y (by simp [ho, Op.operands]; simp at hy; simp [hy]))
  have e3 := optI_den (ρ := ρ) (a := a) h3 (fun y hy => hσ y (by simp [ho, Op.operands]; simp at hy; simp [hy]))
  unfold evSliceP at h
  split at h
  · rename_i v hv
    have hv' := plain_den hv ρ
    rw [hd] at hv'
    injection hv' with hv'
    cases hp : pr P (Instr.sliceAt t v (li.map valI) (hj.map valI) (mk.map valI)) with
    | none => simp [hp] at h
    | some r =>
      simp [hp] at h
      subst h
      refine ⟨r, ?_, den_ofV ρ r⟩
      simp [execOp, ho, e1, e2, e3, hv', pr_run hp w]
  · cases h

/-- Builtins on values without names. -/
theorem exec_builtin {b : Builtin} {c : Call} (ho : o.op = .call c) (hc : c.callee = .builtin b) (ρ : Operand → Value) (w : World) :
    (execOp ρ o).run P w = (builtin b c.argTypes o.type (c.args.map fun | .const _ => true | _ => false) (c.args.map ρ)).run P w := by
  simp [execOp, ho, resolve, hc, invoke]
  rfl
theorem operands_call {c : Call} (ho : o.op = .call c) : ∀ x ∈ c.args.toList, x ∈ o.op.operands := by
  intro x hx
  simp only [ho, Op.operands, Call.operands]
  exact Array.mem_append.2 (.inr (by simpa using hx))
def nextV : Next → Option Value
  | .value v => some v
  | _ => none
def evBuiltinP (P : Program) (b : Builtin) (argTypes : Array TypeId) (type : TypeId) (consts : Array Bool) (ss : List SV) : Option SV :=
  match plainL ss with
  | some vs => ((pr P (builtin b argTypes type consts vs.toArray)).bind nextV).map ofV
  | none => none
theorem ok_builtinP {b : Builtin} {c : Call} {ss : List SV} {q : SV} (ho : o.op = .call c) (hc : c.callee = .builtin b) (hx : sigL σ c.args.toList = some ss)
    (h : evBuiltinP P b c.argTypes o.type (c.args.map fun | .const _ => true | _ => false) ss = some q) : OpOK P base o σ H nx (q, H, nx) := by
  refine ok_still fun ρ a w hσ hs => ?_
  have hd := sigL_den (ρ := ρ) (a := a) hx (fun x hx' => hσ x (operands_call ho x hx'))
  unfold evBuiltinP at h
  split at h
  · rename_i vs hvs
    have h1 := plainL_den hvs ρ
    rw [hd] at h1
    injection h1 with h1
    cases hp : pr P (builtin b c.argTypes o.type (c.args.map fun | .const _ => true | _ => false) vs.toArray) with
    | none => simp [hp] at h
    | some n =>
      cases hn : nextV n with
      | none => simp [hp, hn] at h
      | some v =>
        simp [hp, hn] at h
        subst h
        refine ⟨v, ?_, den_ofV ρ v⟩
        have harr : c.args.map a.eval = vs.toArray := by
          apply Array.ext'
          simpa using h1
        rw [exec_builtin ho hc, harr, pr_run hp w]
        cases n <;> simp [nextV] at hn
        rw [hn]
  · cases h
theorem den_cut {ρ : Env} {n off l k : Nat} {v : Value} (h : den ρ (.cut n off l k) = some v) : ∃ a c, v = .slice (some a) 0 c := by
  cases hr : ρ n with
  | none => simp [den, hr] at h
  | some p =>
    simp only [den, hr, Option.bind_some] at h
    split at h
    · injection h with h; exact ⟨_, _, h.symm⟩
    · cases h
/-- len of a slice. -/
def evLen (P : Program) (t : TypeId) (s : SV) : Option SV :=
  match s, P.underlying t with
  | .sl _ _ len _ _, some (.slice _) => some (.lit (goInt len))
  | .cut _ _ _ _, some (.slice _) => some (.lit (goInt (0 : Nat)))
  | _, _ => none
theorem ok_len {c : Call} {x : Operand} {t : TypeId} {s q : SV} (ho : o.op = .call c) (hc : c.callee = .builtin .len) (ha : c.args = #[x]) (ht : c.argTypes = #[t]) (hx : σ x = some s) (h : evLen P t s = some q) : OpOK P base o σ H nx (q, H, nx) := by
  refine ok_still fun ρ a w hσ hs => ?_
  have hd := hσ x (operands_call ho x (by simp [ha])) s hx
  unfold evLen at h
  split at h
  · rename_i n off len cap k e hu
    injection h with h
    subst h
    cases hr : ρ n with
    | none => simp [den, hr] at hd
    | some p =>
      obtain ⟨c', hv, _⟩ := den_sl hr hd
      refine ⟨goInt len, ?_, rfl⟩
      rw [exec_builtin ho hc]
      simp [builtin, Builtin.len_, ha, ht, hv, run_underlying hu]
  · rename_i n off l k e hu
    injection h with h
    subst h
    cases hr : ρ n with
    | none => simp [den, hr] at hd
    | some p =>
      obtain ⟨ad, c', hv⟩ := den_cut hd
      refine ⟨goInt (0 : Nat), ?_, rfl⟩
      rw [exec_builtin ho hc]
      simp [builtin, Builtin.len_, ha, ht, hv, run_underlying hu]
  · cases h

/-- A name is given to a block of another name. -/
theorem sat_rename {base : Nat} {ρ : Env} {G G' : Nat → Option Slot} {w : World} {n nx : Nat} {s : Slot} {p : Nat × Nat} (h : Sat base ρ G w) (hn : G n = some s) (hp : ρ n = some p) (hnx : ρ nx = none)
    (h1 : G' nx = some s) (h2 : G' n = none) (h3 : ∀ m, m ≠ n → m ≠ nx → G' m = G m) : ∃ ρ', Ext ρ ρ' nx (nx + 1) ∧ ρ' nx = some p ∧ Sat base ρ' G' w ∧ Keep G ρ w G' ρ' w := by
  let ρ' : Env := fun m => if m = nx then some p else ρ m
  have hmore : More ρ ρ' := by
    intro m x hx
    show (if m = nx then _ else ρ m) = some x
    rw [if_neg (fun e => by rw [e, hnx] at hx; cases hx)]
    exact hx
  have hold : ∀ m, m ≠ nx → ρ' m = ρ m := fun m hm => if_neg hm
  have hnew : ρ' nx = some p := if_pos rfl
  refine ⟨ρ', ⟨hmore, fun m hm => if_neg (by omega)⟩, hnew, ⟨h.room, ?_, ?_⟩, ⟨rfl, rfl, rfl, Nat.le_refl _, fun _ _ _ => rfl, ?_⟩⟩
  · intro m t ht
    by_cases e : m = nx
    · subst e
      rw [h1] at ht
      injection ht with ht
      subst ht
      obtain ⟨q, ob, g1, g2, g3, g4⟩ := h.held n s hn
      rw [hp] at g1
      injection g1 with g1
      subst g1
      exact ⟨p, ob, hnew, g2, g3, g4.more hmore⟩
    · have hmn : m ≠ n := fun e' => by rw [e', h2] at ht; cases ht
      rw [h3 m hmn e] at ht
      obtain ⟨q, ob, g1, g2, g3, g4⟩ := h.held m t ht
      exact ⟨q, ob, hmore m q g1, g2, g3, g4.more hmore⟩
  · intro i j s' t' q r hi hj hqi hqj hqr
    have back : ∀ i s' q, G' i = some s' → ρ' i = some q → ∃ i', G i' = some s' ∧ ρ i' = some q ∧ (i = nx → i' = n) ∧ (i ≠ nx → i' = i ∧ i ≠ n) := by
      intro i s' q hi hqi
      by_cases e : i = nx
      · subst e
        rw [h1] at hi
        rw [hnew] at hqi
        injection hi with hi
        injection hqi with hqi
        subst hi
        subst hqi
        exact ⟨n, hn, hp, fun _ => rfl, fun h => absurd rfl h⟩
      · have hmn : i ≠ n := fun e' => by rw [e', h2] at hi; cases hi
        rw [h3 i hmn e] at hi
        rw [hold i e] at hqi
        exact ⟨i, hi, hqi, fun h => absurd h e, fun _ => ⟨rfl, hmn⟩⟩
    obtain ⟨i', a1, a2, a3, a4⟩ := back i s' q hi hqi
    obtain ⟨j', b1, b2, b3, b4⟩ := back j t' r hj hqj
    have hij := h.apart i' j' s' t' q r a1 b1 a2 b2 hqr
    by_cases e1 : i = nx
    · by_cases e2 : j = nx
      · rw [e1, e2]
      · have := a3 e1
        have := b4 e2
        omega
    · by_cases e2 : j = nx
      · have := a4 e1
        have := b3 e2
        omega
      · have := a4 e1
        have := b4 e2
        omega
  · intro i s' q h4 h5 h6
    by_cases e : i = nx
    · rw [e, h1] at h4
      rw [e, hnew] at h6
      injection h4 with h4
      injection h6 with h6
      exact .inr ⟨n, s, p, hn, h4 ▸ h5, hp, by rw [h6]⟩
    · have hmn : i ≠ n := fun e' => by rw [e', h2] at h4; cases h4
      rw [h3 i hmn e] at h4
      rw [hold i e] at h6
      exact .inr ⟨i, s', q, h4, h5, h6, rfl⟩

/-- append: what is appended. -/
def srcCells (H : Heap) (k : Nat) (x : SV) : Option (Nat × List SV) :=
  match x with
  | .lit (.slice none 0 _) => some (0, [])
  | .cut _ _ _ _ => some (0, [])
  | .sl m off len _ k' => match H.get m with
    | some ⟨_, .row cs _ _⟩ => bif Nat.beq k' k && Nat.ble (off + len * k) cs.length && ((cs.drop off).take (len * k)).all SV.one then some (len, (cs.drop off).take (len * k)) else none
    | _ => none
  | _ => none
def evAppend (P : Program) (t : TypeId) (s x : SV) (H : Heap) (nx : Nat) : Option Out :=
  match P.underlying t with
  | some (.slice e) => match P.info? e with
    | some i => match i.zero with
      | some z =>
        bif Nat.beq z.cells.size i.size && !Nat.beq i.size 0 then
          match srcCells H i.size x with
          | some (m, news) =>
            match s with
            | .lit (.slice none 0 0) =>
              bif Nat.beq m 0 then some (s, H, nx) else
              bif Nat.ble (m * i.bytes) 140737488355328 && Nat.ble m 9223372036854775807 then
                some (.sl nx 0 m none i.size, H.put nx (some ⟨false, .row news e true⟩), nx + 1) else none
            | .sl n off len cap k =>
              bif Nat.beq k i.size && Nat.ble len (cap.getD len) then
                bif Nat.beq m 0 then some (s, H, nx) else
                match H.get n with
                | some ⟨lock, .row cs e' slack⟩ =>
                  bif Nat.beq e' e && Nat.ble ((len + m) * i.bytes) 140737488355328 && Nat.ble (len + m) 9223372036854775807 && Nat.ble (off + len * k) cs.length then
                    match cap with
                    | some c =>
                      bif Nat.ble (len + m) c then
                        bif !lock && Nat.beq off 0 && Nat.ble ((len + m) * k) cs.length then
                          some (.sl n 0 (len + m) (some c) k, H.put n (some ⟨false, .row (cs.take (len * k) ++ news ++ cs.drop (len * k + m * k)) e slack⟩), nx)
                        else none
                      else some (.sl nx 0 (len + m) none k, H.put nx (some ⟨false, .row ((cs.drop off).take (len * k) ++ news) e true⟩), nx + 1)
                    | none =>
                      bif !lock && Nat.beq off 0 && Nat.ble ((len + m) * k) cs.length then
                        some (.sl n 0 (len + m) none k, H.put n (some ⟨false, .row (cs.take (len * k) ++ news ++ cs.drop (len * k + m * k)) e slack⟩), nx)
                      else
                      bif !lock && Nat.beq off 0 then
                        some (.sl nx 0 (len + m) none k, (H.put n none).put nx (some ⟨false, .row (cs.take (len * k) ++ news) e true⟩), nx + 1)
                      else none
                  else none
                | _ => none
              else none
            | _ => none
          | none => none
        else none
      | none => none
    | none => none
  | _ => none
theorem srcCells_spec {ρ : Env} {w : World} {k : Nat} {x : SV} {m : Nat} {news : List SV} {v : Value} (h : srcCells H k x = some (m, news)) (hs : Sat base ρ H.get w) (hd : den ρ x = some v) :
    ∃ vs, denL ρ news = some vs ∧ vs.length = m * k ∧ (∀ u ∈ vs, u.oneCell' = true) ∧ ((m = 0 ∧ ∃ c, v = .slice none 0 c) ∨ ∃ b c, v = .slice (some b) m c ∧ ∀ j u, vs[j]? = some u → w.cell? (b.add j) = some u) := by
  unfold srcCells at h
  split at h
  · rename_i c
    simp at h
    obtain ⟨rfl, rfl⟩ := h
    simp [den] at hd
    exact ⟨[], rfl, by simp, fun u hu => by simp at hu, .inl ⟨rfl, c, hd.symm⟩⟩
  · simp at h
    obtain ⟨rfl, rfl⟩ := h
    obtain ⟨ad, c, hv⟩ := den_cut hd
    exact ⟨[], rfl, by simp, fun u hu => by simp at hu, .inr ⟨ad, c, hv, fun j u hj => by simp at hj⟩⟩
  · rename_i n off len cap k'
    split at h
    · rename_i lock cs e slack hg
      cases hc : (Nat.beq k' k && Nat.ble (off + len * k) cs.length && ((cs.drop off).take (len * k)).all SV.one) with
      | false => simp [hc] at h
      | true =>
        simp only [hc, cond_true, Option.some.injEq, Prod.mk.injEq] at h
        obtain ⟨rfl, rfl⟩ := h
        simp only [Bool.and_eq_true] at hc
        obtain ⟨⟨c1, c2⟩, c3⟩ := hc
        have c2 := ble_true c2
        obtain ⟨b, vs, rest, h1, h2, h3, h4⟩ := hs.row hg
        have hlen := denL_length h3
        have hd2 := denL_take (len * k) (denL_drop off h3)
        obtain ⟨c, hv, _⟩ := den_sl h1 hd
        refine ⟨_, hd2, by simp; omega, ?_, .inr ⟨⟨b, off, none⟩, c, hv, ?_⟩⟩
        · intro u hu
          obtain ⟨j, hj⟩ := List.mem_iff_getElem?.1 hu
          have hjl : j < ((cs.drop off).take (len * k)).length := by
            have := (List.getElem?_eq_some_iff.1 hj).1
            have := denL_length hd2
            omega
          obtain ⟨u', hu', hdu⟩ := denL_get hd2 (List.getElem?_eq_getElem hjl)
          rw [hj] at hu'
          injection hu' with hu'
          subst hu'
          exact one_of (List.all_eq_true.1 c3 _ (List.getElem_mem hjl)) hdu
        · intro j u hj
          rw [Addr.add_lit, cell_of h2]
          have hjl : j < len * k := by
            have := (List.getElem?_eq_some_iff.1 hj).1
            simp at this
            omega
          rw [List.getElem?_take_of_lt hjl, List.getElem?_drop] at hj
          have : off + j < vs.length := (List.getElem?_eq_some_iff.1 hj).1
          simp [List.getElem?_append_left this, hj]
    · cases h
  · cases h
theorem run_append_none {t e : TypeId} {i : TypeInfo} {ty : TypeId} {v x : Value} {len c c' : Nat} {a : Option Addr} (hu : P.underlying t = some (.slice e)) (hi : P.info? e = some i) (hv : v = .slice a len c) (hle : len ≤ c) (hx : x = .slice none 0 c' ∨ ∃ b, x = .slice (some b) 0 c') (w : World) :
    (Builtin.append_ #[t, t] ty #[v, x]).run P w = .ok v w := by
  subst hv
  rcases hx with rfl | ⟨b, rfl⟩ <;> cases a <;>
    simp [Builtin.append_, run_underlying hu, sizeOf, typeInfo, hi, Builtin.lenOf, hle, Builtin.firstCells, loadCells, loadCellsFrom, storeCells]
theorem zeroCells_len (z : Array Value) (n k : Nat) (h : z.size = k) : (Builtin.zeroCells z n).toList.length = n * k := by simp [size_zeroCells, h]
theorem ok_append {c : Call} {x y : Operand} {t : TypeId} {s r : SV} (ho : o.op = .call c) (hc : c.callee = .builtin .append) (ha : c.args = #[x, y]) (ht : c.argTypes = #[t, t]) (hx : σ x = some s) (hy : σ y = some r)
    (h : evAppend P t s r H nx = some out) : OpOK P base o σ H nx out := by
  have hex : ∀ (a : Act) (w w' : World) (v : Value), (Builtin.append_ #[t, t] o.type #[a.eval x, a.eval y]).run P w = .ok v w' → (execOp a.eval o).run P w = .ok (.value v) w' := by
    intro a w w' v hv
    rw [exec_builtin ho hc]
    simp [builtin, ha, ht, hv]
  unfold evAppend at h
  split at h
  case h_2 => cases h
  rename_i e hu
  split at h
  case h_2 => cases h
  rename_i i hi
  split at h
  case h_2 => cases h
  rename_i z hz
  cases hb : (Nat.beq z.cells.size i.size && !Nat.beq i.size 0) with
  | false => simp [hb] at h
  | true =>
  simp only [hb, cond_true] at h
  simp only [Bool.and_eq_true, Bool.not_eq_true'] at hb
  have hzs : z.cells.size = i.size := Nat.eq_of_beq_eq_true hb.1
  have hsz := beq_ne hb.2
  split at h
  case h_2 => cases h
  rename_i m news hsrc
  split at h
  · -- onto nil
    cases hm : Nat.beq m 0 with
    | true =>
      simp only [hm, cond_true] at h
      injection h with h
      subst h
      have hm0 : m = 0 := Nat.eq_of_beq_eq_true hm
      subst hm0
      refine ok_still fun ρ a w hσ hs => ?_
      have hdx := hσ x (operands_call ho x (by simp [ha])) _ hx
      have hdy := hσ y (operands_call ho y (by simp [ha])) _ hy
      obtain ⟨vs, g1, g2, g3, g4⟩ := srcCells_spec hsrc hs hdy
      refine ⟨a.eval x, ?_, hdx⟩
      simp [den] at hdx
      rcases g4 with ⟨_, c', hv⟩ | ⟨b, c', hv, _⟩
      · exact hex a w w _ (run_append_none hu hi hdx.symm (Nat.le_refl _) (.inl hv) w)
      · exact hex a w w _ (run_append_none hu hi hdx.symm (Nat.le_refl _) (.inr ⟨b, hv⟩) w)
    | false =>
      simp only [hm, cond_false] at h
      have hm0 := beq_ne hm
      cases hb2 : (Nat.ble (m * i.bytes) 140737488355328 && Nat.ble m 9223372036854775807) with
      | false => simp [hb2] at h
      | true =>
        simp only [hb2, cond_true] at h
        injection h with h
        subst h
        simp only [Bool.and_eq_true] at hb2
        have b1 := ble_true hb2.1
        have b2 := ble_true hb2.2
        refine ⟨by simp, dom_new _ _ _, fun ρ a w hσ hs hf => ?_⟩
        have hdx := hσ x (operands_call ho x (by simp [ha])) _ hx
        have hdy := hσ y (operands_call ho y (by simp [ha])) _ hy
        obtain ⟨vs, g1, g2, g3, g4⟩ := srcCells_spec hsrc hs hdy
        simp [den] at hdx
        rcases g4 with ⟨h0, _⟩ | ⟨b, c', hv, hcells⟩
        · exact absurd h0 hm0
        have hrun := run_append_nil (P := P) w t o.type e i z hu hi hz b m c' vs g2 hcells (by omega) (by omega) (by omega)
        have hge := grownCap_ge w m 0 e
        have hs' : Sat base ρ H.get w.drew := ⟨hs.room, hs.held, hs.apart⟩
        obtain ⟨ρ', k1, k2, k3, k4⟩ := sat_new (nx := nx) (rest := (Builtin.zeroCells z.cells (grownCap w m 0 e - m)).toList) e true hs' (hf nx (Nat.le_refl _) (by simp)) g1 (fun h => by cases h)
        have harr : vs.toArray ++ Builtin.zeroCells z.cells (grownCap w m 0 e - m) = (vs ++ (Builtin.zeroCells z.cells (grownCap w m 0 e - m)).toList).toArray := by
          apply Array.ext'; simp
        rw [← harr] at k3 k4
        refine ⟨ρ', .slice (some ⟨w.heap.size, 0, none⟩) m (grownCap w m 0 e), _, .inl (hex a w _ _ (by rw [← hdx, hv]; exact hrun)), k1, sl_den k2 ?_, k3, ⟨k4.os, k4.tape, k4.output, k4.size, k4.block, k4.own⟩⟩
        have hlen : (vs ++ (Builtin.zeroCells z.cells (grownCap w m 0 e - m)).toList).length = grownCap w m 0 e * i.size := by
          rw [List.length_append, g2, zeroCells_len _ _ _ hzs, ← Nat.add_mul]
          congr 1
          omega
        refine ⟨?_, ?_⟩
        · show grownCap w m 0 e = ((vs ++ _).length - 0) / i.size
          rw [hlen, Nat.sub_zero, Nat.mul_div_cancel _ (by omega)]
        · show 0 + m * i.size ≤ (vs ++ _).length
          rw [hlen, Nat.zero_add]
          exact Nat.mul_le_mul_right _ hge
  · rename_i n off len cap k
    cases hbk : (Nat.beq k i.size && Nat.ble len (cap.getD len)) with
    | false => simp [hbk] at h
    | true =>
    simp only [hbk, cond_true] at h
    simp only [Bool.and_eq_true] at hbk
    have hkk : k = i.size := Nat.eq_of_beq_eq_true hbk.1
    have hlc := ble_true hbk.2
    subst hkk
    have hcap : ∀ {sz c : Nat}, CapOK sz off len i.size cap c → len ≤ c := by
      intro sz c hc
      cases cap with
      | some c0 => rw [show c = c0 from hc]; exact hlc
      | none => exact hc.le (by omega)
    cases hm : Nat.beq m 0 with
    | true =>
      simp only [hm, cond_true] at h
      injection h with h
      subst h
      have hm0 : m = 0 := Nat.eq_of_beq_eq_true hm
      subst hm0
      refine ok_still fun ρ a w hσ hs => ?_
      have hdx := hσ x (operands_call ho x (by simp [ha])) _ hx
      have hdy := hσ y (operands_call ho y (by simp [ha])) _ hy
      obtain ⟨vs, g1, g2, g3, g4⟩ := srcCells_spec hsrc hs hdy
      refine ⟨a.eval x, ?_, hdx⟩
      cases hr : ρ n with
      | none => simp [den, hr] at hdx
      | some p =>
        obtain ⟨c', hv, hc'⟩ := den_sl hr hdx
        rcases g4 with ⟨_, c'', hv'⟩ | ⟨b, c'', hv', _⟩
        · exact hex a w w _ (run_append_none hu hi hv (hcap hc') (.inl hv') w)
        · exact hex a w w _ (run_append_none hu hi hv (hcap hc') (.inr ⟨b, hv'⟩) w)
    | false =>
    simp only [hm, cond_false] at h
    have hm0 := beq_ne hm
    split at h
    case h_2 => cases h
    rename_i lock cs e' slack hg
    cases hb2 : (Nat.beq e' e && Nat.ble ((len + m) * i.bytes) 140737488355328 && Nat.ble (len + m) 9223372036854775807 && Nat.ble (off + len * i.size) cs.length) with
    | false => simp [hb2] at h
    | true =>
    simp only [hb2, cond_true] at h
    simp only [Bool.and_eq_true] at hb2
    obtain ⟨⟨⟨b0, b1⟩, b2⟩, b3⟩ := hb2
    have hee : e' = e := Nat.eq_of_beq_eq_true b0
    have b1 := ble_true b1
    have b2 := ble_true b2
    have b3 := ble_true b3
    subst hee
    -- what holds of the operands
    have pre : ∀ (ρ : Env) (a : Act) (w : World), (∀ x ∈ o.op.operands, ∀ s, σ x = some s → den ρ s = some (a.eval x)) → Sat base ρ H.get w →
        ∃ b vs rest nv ba ca c, ρ n = some (b, (vs ++ rest).length) ∧ w.heap[b]? = some (.cells (vs ++ rest).toArray e' (0, 0)) ∧ denL ρ cs = some vs ∧ (slack = false → rest = []) ∧ a.eval x = .slice (some ⟨b, off, none⟩) len c ∧ CapOK (vs ++ rest).length off len i.size cap c ∧
          a.eval y = .slice (some ba) m ca ∧ denL ρ news = some nv ∧ nv.length = m * i.size ∧ (∀ u ∈ nv, u.oneCell' = true) ∧ (∀ j u, nv[j]? = some u → w.cell? (ba.add j) = some u) := by
      intro ρ a w hσ hs
      have hdx := hσ x (operands_call ho x (by simp [ha])) _ hx
      have hdy := hσ y (operands_call ho y (by simp [ha])) _ hy
      obtain ⟨nv, g1, g2, g3, g4⟩ := srcCells_spec hsrc hs hdy
      obtain ⟨b, vs, rest, k1, k2, k3, k4⟩ := hs.row hg
      obtain ⟨c, hv, hc'⟩ := den_sl k1 hdx
      rcases g4 with ⟨h0, _⟩ | ⟨ba, ca, hv', hcells⟩
      · exact absurd h0 hm0
      exact ⟨b, vs, rest, nv, ba, ca, c, k1, k2, k3, k4, hv, hc', hv', g1, g2, g3, hcells⟩
    -- a new array
    have grow : ∀ (G : Heap) (ρ : Env) (a : Act) (w : World) (b : Nat) (vs rest nv : List Value) (ba : Addr) (ca c : Nat), Sat base ρ G.get w → ρ nx = none → w.heap[b]? = some (.cells (vs ++ rest).toArray e' (0, 0)) → denL ρ cs = some vs →
        a.eval x = .slice (some ⟨b, off, none⟩) len c → a.eval y = .slice (some ba) m ca → denL ρ news = some nv → nv.length = m * i.size → (∀ j u, nv[j]? = some u → w.cell? (ba.add j) = some u) → c < len + m →
        ∃ ρ' v w', (execOp a.eval o).run P w = .ok (.value v) w' ∧ Ext ρ ρ' nx (nx + 1) ∧ den ρ' (.sl nx 0 (len + m) none i.size) = some v ∧ Sat base ρ' (G.put nx (some ⟨false, .row ((cs.drop off).take (len * i.size) ++ news) e' true⟩)).get w' ∧ Keep G.get ρ w (G.put nx (some ⟨false, .row ((cs.drop off).take (len * i.size) ++ news) e' true⟩)).get ρ' w' := by
      intro G ρ a w b vs rest nv ba ca c hs hnx hw hd hvx hvy hnews hnl hcells hlt
      have hlen := denL_length hd
      have hold := denL_take (len * i.size) (denL_drop off hd)
      have hol : ((vs.drop off).take (len * i.size)).length = len * i.size := by simp; omega
      have hocells : ∀ j u, ((vs.drop off).take (len * i.size))[j]? = some u → w.cell? ((⟨b, off, none⟩ : Addr).add j) = some u := by
        intro j u hj
        rw [Addr.add_lit, cell_of hw]
        have hjl : j < len * i.size := by
          have := (List.getElem?_eq_some_iff.1 hj).1
          omega
        rw [List.getElem?_take_of_lt hjl, List.getElem?_drop] at hj
        have : off + j < vs.length := (List.getElem?_eq_some_iff.1 hj).1
        simp [List.getElem?_append_left this, hj]
      have hrun := run_append_grow (P := P) w t o.type e' i z hu hi hz ⟨b, off, none⟩ len c _ hol hocells ba m ca nv hnl hcells hlt (by omega) (growslice_fits hlt b1)
      have hge := grownCap_ge w (len + m) c e'
      have hs' : Sat base ρ G.get w.drew := ⟨hs.room, hs.held, hs.apart⟩
      obtain ⟨ρ', k1, k2, k3, k4⟩ := sat_new (nx := nx) (rest := (Builtin.zeroCells z.cells (grownCap w (len + m) c e' - (len + m))).toList) e' true hs' hnx (denL_append hold hnews) (fun h => by cases h)
      have harr : ((vs.drop off).take (len * i.size)).toArray ++ nv.toArray ++ Builtin.zeroCells z.cells (grownCap w (len + m) c e' - (len + m)) = (((vs.drop off).take (len * i.size) ++ nv) ++ (Builtin.zeroCells z.cells (grownCap w (len + m) c e' - (len + m))).toList).toArray := by
        apply Array.ext'; simp
      rw [← harr] at k3 k4
      have hlen2 : (((vs.drop off).take (len * i.size) ++ nv) ++ (Builtin.zeroCells z.cells (grownCap w (len + m) c e' - (len + m))).toList).length = grownCap w (len + m) c e' * i.size := by
        rw [List.length_append, List.length_append, hol, hnl, zeroCells_len _ _ _ hzs, ← Nat.add_mul, ← Nat.add_mul]
        congr 1
        omega
      refine ⟨ρ', .slice (some ⟨w.heap.size, 0, none⟩) (len + m) (grownCap w (len + m) c e'), _, hex a w _ _ (by rw [hvx, hvy]; exact hrun), k1, sl_den k2 ⟨?_, ?_⟩, k3, ⟨k4.os, k4.tape, k4.output, k4.size, k4.block, k4.own⟩⟩
      · show grownCap w (len + m) c e' = (List.length _ - 0) / i.size
        rw [hlen2, Nat.sub_zero, Nat.mul_div_cancel _ (by omega)]
      · show 0 + (len + m) * i.size ≤ List.length _
        rw [hlen2, Nat.zero_add]
        exact Nat.mul_le_mul_right _ hge
    cases cap with
    | some c0 =>
      simp only at h
      cases hroom : Nat.ble (len + m) c0 with
      | true =>
        simp only [hroom, cond_true] at h
        have hroom := ble_true hroom
        cases hb3 : (!lock && Nat.beq off 0 && Nat.ble ((len + m) * i.size) cs.length) with
        | false => simp [hb3] at h
        | true =>
        simp only [hb3, cond_true] at h
        simp only [Bool.and_eq_true, Bool.not_eq_true'] at hb3
        obtain ⟨⟨hlock, hoff⟩, hfit⟩ := hb3
        have hoff : off = 0 := Nat.eq_of_beq_eq_true hoff
        have hfit := ble_true hfit
        subst hoff
        subst hlock
        injection h with h
        subst h
        refine ⟨Nat.le_refl _, dom_set H n _ _ hg _ _, fun ρ a w hσ hs hf => ?_⟩
        obtain ⟨b, vs, rest, nv, ba, ca, c, k1, k2, k3, k4, k5, k6, k7, k8, k9, k10, k11⟩ := pre ρ a w hσ hs
        have hcc : c = c0 := k6
        subst hcc
        have hlen := denL_length k3
        rw [Nat.add_mul] at hfit
        have hrun := run_append_room (P := P) w t o.type e' i hu hi b len c (vs ++ rest).toArray k2 ba m ca nv k9 k11 k10 hroom (by simp; omega)
        have hlist : (vs ++ rest).toArray.toList.take (len * i.size) ++ nv ++ (vs ++ rest).toArray.toList.drop (len * i.size + nv.length) = (vs.take (len * i.size) ++ nv ++ vs.drop (len * i.size + m * i.size)) ++ rest := by
          rw [k9]
          simp only []
          rw [List.take_append_of_le_length (by omega), List.drop_append_of_le_length (by omega)]
          simp
        rw [hlist] at hrun
        obtain ⟨h5, h6⟩ := sat_set hs hg k1 k2 (denL_append (denL_append (denL_take (len * i.size) k3) k8) (denL_drop (len * i.size + m * i.size) k3)) k4 (by simp; omega)
        exact ⟨ρ, .slice (some ⟨b, 0, none⟩) (len + m) c, _, .inl (hex a w _ _ (by rw [k5, k7]; exact hrun)), Ext.refl _ _ _, sl_den k1 rfl, h5, h6⟩
      | false =>
        simp only [hroom, cond_false] at h
        have hroom : c0 < len + m := by
          rcases Nat.lt_or_ge c0 (len + m) with h' | h'
          · exact h'
          · rw [Nat.ble_eq_true_of_le h'] at hroom; cases hroom
        injection h with h
        subst h
        refine ⟨by simp, dom_new _ _ _, fun ρ a w hσ hs hf => ?_⟩
        obtain ⟨b, vs, rest, nv, ba, ca, c, k1, k2, k3, k4, k5, k6, k7, k8, k9, k10, k11⟩ := pre ρ a w hσ hs
        have hcc : c = c0 := k6
        subst hcc
        obtain ⟨ρ', v, w', g1, g2, g3, g4, g5⟩ := grow H ρ a w b vs rest nv ba ca c hs (hf nx (Nat.le_refl _) (by simp)) k2 k3 k5 k7 k8 k9 k11 hroom
        exact ⟨ρ', v, w', .inl g1, g2, g3, g4, g5⟩
    | none =>
      simp only at h
      cases hb4 : (!lock && Nat.beq off 0 && Nat.ble ((len + m) * i.size) cs.length) with
      | true =>
        simp only [hb4, cond_true] at h
        simp only [Bool.and_eq_true, Bool.not_eq_true'] at hb4
        obtain ⟨⟨hlock, hoff⟩, hfit⟩ := hb4
        have hoff : off = 0 := Nat.eq_of_beq_eq_true hoff
        have hfit := ble_true hfit
        subst hoff
        subst hlock
        injection h with h
        subst h
        refine ⟨Nat.le_refl _, dom_set H n _ _ hg _ _, fun ρ a w hσ hs hf => ?_⟩
        obtain ⟨b, vs, rest, nv, ba, ca, c, k1, k2, k3, k4, k5, k6, k7, k8, k9, k10, k11⟩ := pre ρ a w hσ hs
        have hlen := denL_length k3
        have hroom : len + m ≤ c := by
          rw [k6.1]
          exact lb_le (by omega) (by simp; omega)
        rw [Nat.add_mul] at hfit
        have hrun := run_append_room (P := P) w t o.type e' i hu hi b len c (vs ++ rest).toArray k2 ba m ca nv k9 k11 k10 hroom (by simp; omega)
        have hlist : (vs ++ rest).toArray.toList.take (len * i.size) ++ nv ++ (vs ++ rest).toArray.toList.drop (len * i.size + nv.length) = (vs.take (len * i.size) ++ nv ++ vs.drop (len * i.size + m * i.size)) ++ rest := by
          rw [k9]
          simp only []
          rw [List.take_append_of_le_length (by omega), List.drop_append_of_le_length (by omega)]
          simp
        rw [hlist] at hrun
        obtain ⟨h5, h6⟩ := sat_set hs hg k1 k2 (denL_append (denL_append (denL_take (len * i.size) k3) k8) (denL_drop (len * i.size + m * i.size) k3)) k4 (by simp; omega)
        refine ⟨ρ, .slice (some ⟨b, 0, none⟩) (len + m) c, _, .inl (hex a w _ _ (by rw [k5, k7]; exact hrun)), Ext.refl _ _ _, sl_den k1 ⟨k6.1, ?_⟩, h5, h6⟩
        rw [Nat.add_mul]
        simp
        omega
      | false =>
      simp only [hb4, cond_false] at h
      cases hb3 : (!lock && Nat.beq off 0) with
      | false => simp [hb3] at h
      | true =>
      simp only [hb3, cond_true] at h
      simp only [Bool.and_eq_true, Bool.not_eq_true'] at hb3
      obtain ⟨hlock, hoff⟩ := hb3
      have hoff : off = 0 := Nat.eq_of_beq_eq_true hoff
      subst hoff
      subst hlock
      injection h with h
      subst h
      refine ⟨by simp, (dom_erase H n nx nx).trans (dom_new _ _ _) (Nat.le_refl _) (by simp), fun ρ a w hσ hs hf => ?_⟩
      obtain ⟨b, vs, rest, nv, ba, ca, c, k1, k2, k3, k4, k5, k6, k7, k8, k9, k10, k11⟩ := pre ρ a w hσ hs
      have hnx := hf nx (Nat.le_refl _) (by simp)
      have hne : n ≠ nx := fun e => by rw [e, hnx] at k1; cases k1
      have hlen := denL_length k3
      by_cases hroom : len + m ≤ c
      · have hcap' : c * i.size ≤ (vs ++ rest).length := by
          have := k6.1
          rw [Nat.sub_zero] at this
          rw [this]
          exact Nat.div_mul_le_self _ _
        have hfit : len * i.size + m * i.size ≤ (vs ++ rest).length := by
          rw [← Nat.add_mul]
          exact Nat.le_trans (Nat.mul_le_mul_right _ hroom) hcap'
        have hrun := run_append_room (P := P) w t o.type e' i hu hi b len c (vs ++ rest).toArray k2 ba m ca nv k9 k11 k10 hroom (by simp at hfit ⊢; omega)
        have hlist : (vs ++ rest).toArray.toList.take (len * i.size) ++ nv ++ (vs ++ rest).toArray.toList.drop (len * i.size + nv.length) = (vs.take (len * i.size) ++ nv) ++ (vs ++ rest).drop (len * i.size + m * i.size) := by
          rw [k9]
          simp only []
          rw [List.take_append_of_le_length (by omega)]
        rw [hlist] at hrun
        obtain ⟨h5, h6⟩ := sat_set (slack' := true) (rest' := (vs ++ rest).drop (len * i.size + m * i.size)) hs hg k1 k2 (denL_append (denL_take (len * i.size) k3) k8) (fun h => by cases h) (by simp at hfit ⊢; omega)
        obtain ⟨ρ', g1, g2, g3, g3'⟩ := sat_rename (G' := ((H.put n none).put nx (some ⟨false, .row (cs.take (len * i.size) ++ news) e' true⟩)).get) h5 (PT.get_put_same _ _ _) k1 hnx (PT.get_put_same _ _ _)
          (by rw [PT.get_put_ne _ _ hne, PT.get_put_same]) (fun q hq1 hq2 => by rw [PT.get_put_ne _ _ hq2, PT.get_put_ne _ _ hq1, PT.get_put_ne _ _ hq1])
        refine ⟨ρ', .slice (some ⟨b, 0, none⟩) (len + m) c, _, .inl (hex a w _ _ (by rw [k5, k7]; exact hrun)), g1, sl_den g2 ⟨k6.1, ?_⟩, g3, h6.trans g3'⟩
        show 0 + (len + m) * i.size ≤ (vs ++ rest).length
        rw [Nat.add_mul]
        omega
      · have hs' : Sat base ρ (H.put n none).get w := hs.fewer (fun q s hq => by
          rw [PT.get_put] at hq
          split at hq
          · cases hq
          · exact ⟨s, hq, rfl⟩)
        obtain ⟨ρ', v, w', g1, g2, g3, g4, g5⟩ := grow (H.put n none) ρ a w b vs rest nv ba ca c hs' hnx k2 k3 k5 k7 k8 k9 k11 (by omega)
        have g5' := g5.wider (H := H.get) (fun q s hq hl => by
          rw [PT.get_put] at hq
          split at hq
          · cases hq
          · exact ⟨s, hq, hl⟩)
        simp only [List.drop_zero] at g4 g5'
        exact ⟨ρ', v, w', .inl g1, g2, g3, g4, g5'⟩
  · cases h

/-- clear of a slice. -/
def evClear (P : Program) (t : TypeId) (s : SV) (H : Heap) (nx : Nat) : Option Out :=
  match s, P.underlying t with
  | .sl n off len _ k, some (.slice e) => match H.get n with
    | some ⟨false, .row cs e' slack⟩ => match zeroOf P e with
      | some z => bif Nat.beq z.cells.size k && !Nat.beq k 0 && z.cells.toList.all (fun v => v.oneCell') && Nat.ble (off + len * k) cs.length then
          bif Nat.beq len 0 then some (.lit (.tuple #[]), H, nx) else
          some (.lit (.tuple #[]), H.put n (some ⟨false, .row (cs.take off ++ zeroRow z.cells.toList len ++ cs.drop (off + len * k)) e' slack⟩), nx)
        else none
      | none => none
    | _ => none
  | .cut _ _ _ _, some (.slice _) => some (.lit (.tuple #[]), H, nx)
  | _, _ => none
theorem zeroVals_one {z : List Value} (h : ∀ v ∈ z, v.oneCell' = true) : ∀ n, ∀ u ∈ zeroVals z n, u.oneCell' = true
  | 0, u, hu => by cases hu
  | n + 1, u, hu => by
    rcases List.mem_append.1 hu with hu | hu
    · exact h u hu
    · exact zeroVals_one h n u hu
theorem zeroCells_eq (z : Array Value) (n k : Nat) (hk : z.size = k) (h0 : 0 < k) : Builtin.zeroCells z n = (zeroVals z.toList n).toArray := by
  unfold Builtin.zeroCells
  rw [hk]
  have := zeros_eq z n k hk h0
  rw [hk] at this
  exact this
theorem ok_clear {c : Call} {x : Operand} {t : TypeId} {s : SV} (ho : o.op = .call c) (hc : c.callee = .builtin .clear) (ha : c.args = #[x]) (ht : c.argTypes = #[t]) (hx : σ x = some s) (h : evClear P t s H nx = some out) : OpOK P base o σ H nx out := by
  have hex : ∀ (a : Act) (w w' : World) (v : Value), (Builtin.clear_ #[t] o.type #[a.eval x]).run P w = .ok v w' → (execOp a.eval o).run P w = .ok (.value v) w' := by
    intro a w w' v hv
    rw [exec_builtin ho hc]
    simp [builtin, ha, ht, hv]
  unfold evClear at h
  split at h
  · rename_i n off len cap k e hu
    split at h
    · rename_i cs e' slack hg
      split at h
      · rename_i z hz
        cases hb : (Nat.beq z.cells.size k && !Nat.beq k 0 && z.cells.toList.all (fun v => v.oneCell') && Nat.ble (off + len * k) cs.length) with
        | false => rw [hb] at h; cases h
        | true =>
        simp only [hb, cond_true] at h
        simp only [Bool.and_eq_true, Bool.not_eq_true'] at hb
        obtain ⟨⟨⟨b1, b2⟩, b3⟩, b4⟩ := hb
        have hzk : z.cells.size = k := Nat.eq_of_beq_eq_true b1
        have hk0 := beq_ne b2
        have b4 := ble_true b4
        cases hl : Nat.beq len 0 with
        | true =>
          simp only [hl, cond_true] at h
          have hl0 : len = 0 := Nat.eq_of_beq_eq_true hl
          injection h with h
          subst h
          refine ok_still fun ρ a w hσ hs => ?_
          have hd := hσ x (operands_call ho x (by simp [ha])) _ hx
          cases hr : ρ n with
          | none => simp [den, hr] at hd
          | some p =>
            obtain ⟨c', hv, _⟩ := den_sl hr hd
            refine ⟨.tuple #[], hex a w w _ ?_, rfl⟩
            simp [Builtin.clear_, hv, hl0, run_underlying hu]
        | false =>
          simp only [hl, cond_false] at h
          have hl0 := beq_ne hl
          injection h with h
          subst h
          refine ⟨Nat.le_refl _, dom_set H n _ _ hg _ _, fun ρ a w hσ hs hf => ?_⟩
          have hd := hσ x (operands_call ho x (by simp [ha])) _ hx
          obtain ⟨b, vs, rest, k1, k2, k3, k4⟩ := hs.row hg
          obtain ⟨c', hv, _⟩ := den_sl k1 hd
          have hlen := denL_length k3
          have hzl := zeroVals_length z.cells.toList len
          simp only [Array.length_toList, hzk] at hzl
          have h1 : ∀ u ∈ zeroVals z.cells.toList len, u.oneCell' = true := zeroVals_one (fun v hv => List.all_eq_true.1 b3 v hv) len
          have hst := run_storeCells_at P b off e' (zeroVals z.cells.toList len) 0 (vs ++ rest).toArray w k2 (by simp; omega) h1
          simp only [Nat.add_zero, hzl] at hst
          have hlist : (vs ++ rest).take off ++ zeroVals z.cells.toList len ++ (vs ++ rest).drop (off + len * k) = (vs.take off ++ zeroVals z.cells.toList len ++ vs.drop (off + len * k)) ++ rest := by
            rw [List.take_append_of_le_length (by omega), List.drop_append_of_le_length (by omega)]
            simp
          rw [hlist] at hst
          obtain ⟨h5, h6⟩ := sat_set hs hg k1 k2 (denL_append (denL_append (denL_take off k3) (zeroRow_den ρ z.cells.toList len)) (denL_drop (off + len * k) k3)) k4 (by simp; omega)
          refine ⟨ρ, .tuple #[], _, .inl (hex a w _ _ ?_), Ext.refl _ _ _, rfl, h5, h6⟩
          obtain ⟨m, rfl⟩ : ∃ m, len = m + 1 := ⟨len - 1, by omega⟩
          simp [Builtin.clear_, hv, run_underlying hu, run_zero hz, zeroCells_eq z.cells _ k hzk (by omega), hst]
      · cases h
    · cases h
  · rename_i n off l k e hu
    injection h with h
    subst h
    refine ok_still fun ρ a w hσ hs => ?_
    have hd := hσ x (operands_call ho x (by simp [ha])) _ hx
    obtain ⟨ad, c', hv⟩ := den_cut hd
    refine ⟨.tuple #[], hex a w w _ ?_, rfl⟩
    simp [Builtin.clear_, hv, run_underlying hu]
  · cases h
end
end Ev
end Go.Proofs.YtekhboekiehdhaaGreatDoor
