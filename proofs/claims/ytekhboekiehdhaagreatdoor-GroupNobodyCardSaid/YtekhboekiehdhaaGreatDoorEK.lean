/- make of a slice, cap, bytes to a string: over names. -/
import Derived.Test.YtekhboekiehdhaaGreatDoorEM
import Derived.Laws.MakeOwn
import Derived.Laws.BytesString
set_option linter.unusedVariables false
set_option linter.unusedSimpArgs false
namespace Go.Proofs.YtekhboekiehdhaaGreatDoor
namespace Ev
open Go.RowKit

section
variable {P : Program} {base : Nat} {o : Oper} {σ : Sig} {H : Heap} {nx : Nat} {out : Out}
def natOfS : SV → Option Nat
  | .lit (.int _ (.ofNat n)) => some n
  | _ => none
theorem natOfS_den {s : SV} {n : Nat} {ρ : Env} {v : Value} (h : natOfS s = some n) (hd : den ρ s = some v) : ∃ k, v = .int k (n : Int) := by
  unfold natOfS at h
  split at h
  · rename_i k m
    injection h with h
    subst h
    simp [den] at hd
    exact ⟨k, hd.symm⟩
  · cases h
def evMakeSlice (P : Program) (t : TypeId) (ls cs : SV) (H : Heap) (nx : Nat) : Option Out :=
  match P.underlying t, natOfS ls, natOfS cs with
  | some (.slice e), some l, some c => match P.info? e with
    | some i => match i.zero with
      | some z => bif Nat.ble l c && Nat.ble (i.bytes * c) 281474976710656 && Nat.ble c 9223372036854775807 && Nat.ble (c * i.size) 16777216 && !Nat.beq i.size 0 && Nat.beq z.cells.size i.size then
          some (.sl nx 0 l (some c) i.size, H.put nx (some ⟨false, .row (zeroRow z.cells.toList c) e false⟩), nx + 1)
        else none
      | none => none
    | none => none
  | _, _, _ => none
theorem ok_makeSlice {t : TypeId} {x y : Operand} {s r : SV} (ho : o.op = .makeSlice t x y) (hx : σ x = some s) (hy : σ y = some r) (h : evMakeSlice P t s r H nx = some out) : OpOK P base o σ H nx out := by
  unfold evMakeSlice at h
  split at h
  case h_2 => cases h
  rename_i e l c hu hl hc
  split at h
  case h_2 => cases h
  rename_i i hi
  split at h
  case h_2 => cases h
  rename_i z hz
  cases hcc : (Nat.ble l c && Nat.ble (i.bytes * c) 281474976710656 && Nat.ble c 9223372036854775807 && Nat.ble (c * i.size) 16777216 && !Nat.beq i.size 0 && Nat.beq z.cells.size i.size) with
  | false => rw [hcc] at h; cases h
  | true =>
    rw [hcc] at h
    simp only [cond_true] at h
    injection h with h
    subst h
    simp only [Bool.and_eq_true, Bool.not_eq_true'] at hcc
    obtain ⟨⟨⟨⟨⟨c1, c2⟩, c3⟩, c4⟩, c5⟩, c6⟩ := hcc
    have d1 := ble_true c1
    have d2 := ble_true c2
    have d3 := ble_true c3
    have d4 := ble_true c4
    have d5 := beq_ne c5
    have d6 : z.cells.size = i.size := Nat.eq_of_beq_eq_true c6
    refine ⟨by simp, dom_new _ _ _, fun ρ a w hσ hs hfr => ?_⟩
    obtain ⟨kl, hkl⟩ := natOfS_den hl (hσ x (by simp [ho, Op.operands]) _ hx)
    obtain ⟨kc, hkc⟩ := natOfS_den hc (hσ y (by simp [ho, Op.operands]) _ hy)
    obtain ⟨ρ', g1, g2, g3, g4⟩ := sat_new (nx := nx) (rest := []) e false hs (hfr nx (Nat.le_refl _) (by simp)) (zeroRow_den ρ z.cells.toList c) (fun _ => rfl)
    have hb : (i.bytes : Int) * (c : Int) ≤ 281474976710656 := by
      have h : ((i.bytes * c : Nat) : Int) ≤ 281474976710656 := by omega
      rwa [Int.natCast_mul] at h
    have hrun := run_makeSlice (P := P) (w := w) t e i z hu hi hz kl kc (l : Int) (c : Int) (by omega) (by omega) (by simpa using d4) hb (by omega)
    have hcells : madeCells z.cells (c * i.size) = (zeroVals z.cells.toList c ++ []).toArray := by
      rw [List.append_nil, ← zeros_eq z.cells c i.size d6 (by omega)]
      rfl
    simp only [Int.toNat_natCast] at hrun
    rw [hcells] at hrun
    refine ⟨ρ', .slice (some ⟨w.heap.size, 0, none⟩) l c, _, .inl ?_, g1, by simp only [den, g2, Option.bind_some], g3, g4⟩
    simp [execOp, ho, hkl, hkc, hrun]

def evCap (P : Program) (t : TypeId) (s : SV) : Option SV :=
  match s, P.underlying t with
  | .sl _ _ _ (some c) _, some (.slice _) => some (.lit (goInt c))
  | _, _ => none
theorem ok_cap {c : Call} {x : Operand} {t : TypeId} {s q : SV} (ho : o.op = .call c) (hc : c.callee = .builtin .cap) (ha : c.args = #[x]) (ht : c.argTypes = #[t]) (hx : σ x = some s) (h : evCap P t s = some q) : OpOK P base o σ H nx (q, H, nx) := by
  refine ok_still fun ρ a w hσ hs => ?_
  have hd := hσ x (operands_call ho x (by simp [ha])) s hx
  unfold evCap at h
  split at h
  · rename_i n off len cap k e hu
    injection h with h
    subst h
    cases hr : ρ n with
    | none => simp [den, hr] at hd
    | some p =>
      simp [den, hr] at hd
      refine ⟨goInt cap, ?_, rfl⟩
      rw [exec_builtin ho hc]
      simp [builtin, Builtin.cap_, ha, ht, ← hd, run_underlying hu]
  · cases h

def bytesS : List SV → Option (List Int)
  | [] => some []
  | .lit (.int .u8 n) :: r => (bytesS r).map (n :: ·)
  | _ => none
theorem bytesS_den {ρ : Env} : ∀ {l : List SV} {ns : List Int} {vs : List Value}, bytesS l = some ns → denL ρ l = some vs → vs = ns.map (.int .u8)
  | [], ns, vs, h, hd => by simp [bytesS] at h; simp [denL] at hd; subst h; subst hd; rfl
  | s :: r, ns, vs, h, hd => by
    obtain ⟨v, us, h1, h2, rfl⟩ := denL_cons.1 hd
    unfold bytesS at h
    split at h
    · rename_i e; cases e
    · rename_i n r' e
      injection e with e1 e2
      subst e1
      subst e2
      cases hb : bytesS r with
      | none => simp [hb] at h
      | some ms =>
        simp [hb] at h
        subst h
        simp [den] at h1
        rw [bytesS_den hb h2, ← h1]
        rfl
    · cases h
/-- bytes to a string -/
def evConvB (P : Program) (src dst : TypeId) (s : SV) (H : Heap) : Option SV :=
  match P.underlying src, P.underlying dst, s with
  | some (.slice e), some .string, .sl n off len _ _ => match P.underlying e with
    | some (.int .u8) => match H.get n with
      | some ⟨_, .row cs _ _⟩ => match bytesS ((cs.drop off).take len) with
        | some ns => bif Nat.beq ns.length len then some (.lit (.string (ns.foldl (fun r n => r.push (UInt8.ofNat n.toNat)) ByteArray.empty))) else none
        | none => none
      | _ => none
    | _ => none
  | _, _, _ => none
theorem ok_convB {t u : TypeId} {x : Operand} {s q : SV} (ho : o.op = .convert t u x) (hx : σ x = some s) (h : evConvB P t u s H = some q) : OpOK P base o σ H nx (q, H, nx) := by
  refine ok_still fun ρ a w hσ hs => ?_
  have hd := hσ x (by simp [ho, Op.operands]) s hx
  unfold evConvB at h
  split at h
  case h_2 => cases h
  rename_i e n off len cap k ht hu
  split at h
  case h_2 => cases h
  rename_i he
  split at h
  case h_2 => cases h
  rename_i lk cs e' slack hg
  split at h
  case h_2 => cases h
  rename_i ns hns
  cases hc : Nat.beq ns.length len with
  | false => rw [hc] at h; cases h
  | true =>
    rw [hc] at h
    simp only [cond_true] at h
    injection h with h
    subst h
    have hlen : ns.length = len := Nat.eq_of_beq_eq_true hc
    obtain ⟨b, vs, rest, h1, h2, h3, h4⟩ := hs.row hg
    obtain ⟨c', hv, _⟩ := den_sl h1 hd
    have hvs := bytesS_den hns (denL_take len (denL_drop off h3))
    have hrun := run_loadCells_list (P := P) w ⟨b, off, none⟩ ((vs.drop off).take len) (fun j v hj => by
      rw [Addr.add_lit, cell_of h2]
      have hjl := (List.getElem?_eq_some_iff.1 hj).1
      simp only [List.length_take, List.length_drop] at hjl
      rw [List.getElem?_take_of_lt (by omega), List.getElem?_drop] at hj
      simp [List.getElem?_append_left (show off + j < vs.length by omega), hj])
    rw [hvs, List.length_map, hlen] at hrun
    refine ⟨_, ?_, rfl⟩
    have h5 := run_bytesToString w ⟨b, off, none⟩ len c' ns hrun
    simp [execOp, ho, hv, run_convert_bytes_string w t u e _ _ _ ht he hu, h5]
end
end Ev
end Go.Proofs.YtekhboekiehdhaaGreatDoor
