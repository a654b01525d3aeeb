/- One operation over names, whichever it is. -/
import Derived.Test.YtekhboekiehdhaaGreatDoorEK
set_option linter.unusedVariables false
set_option linter.unusedSimpArgs false
namespace Go.Proofs.YtekhboekiehdhaaGreatDoor
namespace Ev
open Go.RowKit

def still (H : Heap) (nx : Nat) (s : Option SV) : Option Out := match s with | some q => some (q, H, nx) | none => none
def evBuiltin (P : Program) (b : Builtin) (c : Call) (type : TypeId) (σ : Sig) (H : Heap) (nx : Nat) : Option Out :=
  match b, c.args.toList, c.argTypes.toList with
  | .append, [x, y], [t, t'] => bif Nat.beq t t' then
      match σ x, σ y with
      | some s, some r => evAppend P t s r H nx
      | _, _ => none
    else none
  | .len, [x], [t] => match σ x with
    | some s => match evLen P t s with
      | some q => some (q, H, nx)
      | none => match evLenM P t s H with
        | some q => some (q, H, nx)
        | none => still H nx (evBuiltinP P .len c.argTypes type (c.args.map fun | .const _ => true | _ => false) [s])
    | none => none
  | .cap, [x], [t] => match σ x with
    | some s => match evCap P t s with
      | some q => some (q, H, nx)
      | none => still H nx (evBuiltinP P .cap c.argTypes type (c.args.map fun | .const _ => true | _ => false) [s])
    | none => none
  | .delete, [x, y], [t, t'] => match σ x, σ y with
    | some m, some k => evDelete P t m k H nx
    | _, _ => none
  | .clear, [x], [t] => match σ x with
    | some s => match evClear P t s H nx with
      | some q => some q
      | none => still H nx (evBuiltinP P .clear c.argTypes type (c.args.map fun | .const _ => true | _ => false) [s])
    | none => none
  | b, xs, _ => match sigL σ xs with
    | some ss => still H nx (evBuiltinP P b c.argTypes type (c.args.map fun | .const _ => true | _ => false) ss)
    | none => none
def evOp (P : Program) (o : Oper) (σ : Sig) (H : Heap) (nx : Nat) : Option Out :=
  match o.op with
  | .move x => still H nx (σ x)
  | .assign x => still H nx (σ x)
  | .pick c x y => match σ c with
    | some cs => still H nx (evPick cs (σ x) (σ y))
    | none => none
  | .alloc e => evAlloc P e H nx
  | .box e x => match σ x with
    | some s => evBox e s H nx
    | none => none
  | .build t parts => match sigP σ parts.toList with
    | some ps => still H nx (evBuild P t ps)
    | none => none
  | .buildSlice t len parts => match sigP σ parts.toList with
    | some ps => evBuildSlice P t len ps H nx
    | none => none
  | .load t x => match σ x with
    | some s => evLoad P t s H nx
    | none => none
  | .store t x y => match σ x, σ y with
    | some p, some s => evStore P t p s H nx
    | _, _ => none
  | .nilCheck x => match σ x with
    | some s => bif notNil P s then some (s, H, nx) else none
    | none => none
  | .binOp op t x y _ => match σ x, σ y with
    | some s, some r => still H nx (evBin P op t x y s r)
    | _, _ => none
  | .unOp op _ x => match σ x with
    | some s => still H nx (evPlain1 P (Op.unary op) s)
    | none => none
  | .convert t u x => match σ x with
    | some s => match evConvB P t u s H with
      | some q => some (q, H, nx)
      | none => still H nx (evPlain1 P (convert t u) s)
    | none => none
  | .makeInterface t x => match σ x with
    | some s => bif concreteB P t then some (.ifc t s, H, nx) else none
    | none => none
  | .makeFunc f xs ys => match sigL σ xs.toList, sigL σ ys.toList with
    | some ss, some rs => some (.fn f ss rs, H, nx)
    | _, _ => none
  | .slice t x lo hi mx => match σ x, optI σ lo, optI σ hi, optI σ mx with
    | some s, some l, some h, some m => match evSliceS P t s H l h m with
      | some q => some (q, H, nx)
      | none => still H nx (evSliceP P t s l h m)
    | _, _, _, _ => none
  | .fieldAddr t x i => match σ x with
    | some s => still H nx (evFieldAddr P t s i)
    | none => none
  | .field t x i => match σ x with
    | some s => still H nx (evField P t s i)
    | none => none
  | .indexAddr t x y => match σ x, σ y with
    | some s, some r => still H nx (evIndexAddr P t s r)
    | _, _ => none
  | .index t x y => match σ x, σ y with
    | some s, some r => still H nx (evIndex P t s r)
    | _, _ => none
  | .extract x i => match σ x with
    | some s => still H nx (evExtract P s i)
    | none => none
  | .call c => match c.callee with
    | .builtin b => evBuiltin P b c o.type σ H nx
    | _ => none
  | .makeMap _ none => some (.mp nx, H.put nx (some ⟨false, .map [] 0⟩), nx + 1)
  | .lookup t x y ok => match σ x, σ y with
    | some s, some r => still H nx (evLookup P t s r ok H)
    | _, _ => none
  | .mapUpdate t x y z => match σ x, σ y, σ z with
    | some m, some k, some v => evMapUpdate P t m k v H nx
    | _, _, _ => none
  | .range t x => match σ x with
    | some s => evRange P t s H nx
    | none => none
  | .entry x => match σ x with
    | some s => still H nx (evEntry s H)
    | none => none
  | .makeSlice t x y => match σ x, σ y with
    | some s, some r => evMakeSlice P t s r H nx
    | _, _ => none
  | _ => none

section
variable {P : Program} {base : Nat} {o : Oper} {σ : Sig} {H : Heap} {nx : Nat} {out : Out}
theorem of_still {s : Option SV} (h : still H nx s = some out) : ∃ q, s = some q ∧ out = (q, H, nx) := by
  cases s with
  | none => cases h
  | some q => injection h with h; exact ⟨q, rfl, h.symm⟩
theorem args_of {c : Call} {l : List Operand} (h : c.args.toList = l) : c.args = l.toArray := by rw [← h]
theorem types_of {c : Call} {l : List TypeId} (h : c.argTypes.toList = l) : c.argTypes = l.toArray := by rw [← h]
theorem ok_op (h : evOp P o σ H nx = some out) : OpOK P base o σ H nx out := by
  unfold evOp at h
  split at h
  case h_1 x ho =>
    obtain ⟨q, hq, rfl⟩ := of_still h
    exact ok_move (.inl ho) hq
  case h_2 x ho =>
    obtain ⟨q, hq, rfl⟩ := of_still h
    exact ok_move (.inr ho) hq
  case h_3 c x y ho =>
    split at h
    · rename_i cs hc
      obtain ⟨q, hq, rfl⟩ := of_still h
      exact ok_pick ho hc hq
    · cases h
  case h_4 e ho => exact ok_alloc ho h
  case h_5 e x ho =>
    split at h
    · rename_i s hx; exact ok_box ho hx h
    · cases h
  case h_6 t parts ho =>
    split at h
    · rename_i ps hp
      obtain ⟨q, hq, rfl⟩ := of_still h
      exact ok_build ho hp hq
    · cases h
  case h_7 t len parts ho =>
    split at h
    · rename_i ps hp; exact ok_buildSlice ho hp h
    · cases h
  case h_8 t x ho =>
    split at h
    · rename_i s hx; exact ok_load ho hx h
    · cases h
  case h_9 t x y ho =>
    split at h
    · rename_i p s hx hy; exact ok_store ho hx hy h
    · cases h
  case h_10 x ho =>
    split at h
    · rename_i s hx
      cases hn : notNil P s with
      | false => simp [hn] at h
      | true =>
        simp only [hn, cond_true] at h
        injection h with h
        subst h
        exact ok_nilCheck ho hx hn
    · cases h
  case h_11 op t x y u ho =>
    split at h
    · rename_i s r hx hy
      obtain ⟨q, hq, rfl⟩ := of_still h
      exact ok_bin ho hx hy hq
    · cases h
  case h_12 op t x ho =>
    split at h
    · rename_i s hx
      obtain ⟨q, hq, rfl⟩ := of_still h
      exact ok_un ho hx hq
    · cases h
  case h_13 t u x ho =>
    split at h
    · rename_i s hx
      split at h
      · rename_i q hq
        injection h with h
        subst h
        exact ok_convB ho hx hq
      · obtain ⟨q, hq, rfl⟩ := of_still h
        exact ok_convert ho hx hq
    · cases h
  case h_14 t x ho =>
    split at h
    · rename_i s hx
      cases hn : concreteB P t with
      | false => simp [hn] at h
      | true =>
        simp only [hn, cond_true] at h
        injection h with h
        subst h
        exact ok_iface ho hx hn
    · cases h
  case h_15 f xs ys ho =>
    split at h
    · rename_i ss rs hx hy
      injection h with h
      subst h
      exact ok_func ho hx hy
    · cases h
  case h_16 t x lo hi mx ho =>
    split at h
    · rename_i s l hh m hx h1 h2 h3
      split at h
      · rename_i q hq
        injection h with h
        subst h
        exact ok_sliceS ho hx h1 h2 h3 hq
      · obtain ⟨q, hq, rfl⟩ := of_still h
        exact ok_sliceP ho hx h1 h2 h3 hq
    · cases h
  case h_17 t x i ho =>
    split at h
    · rename_i s hx
      obtain ⟨q, hq, rfl⟩ := of_still h
      exact ok_fieldAddr ho hx hq
    · cases h
  case h_18 t x i ho =>
    split at h
    · rename_i s hx
      obtain ⟨q, hq, rfl⟩ := of_still h
      exact ok_field ho hx hq
    · cases h
  case h_19 t x y ho =>
    split at h
    · rename_i s r hx hy
      obtain ⟨q, hq, rfl⟩ := of_still h
      exact ok_indexAddr ho hx hy hq
    · cases h
  case h_20 t x y ho =>
    split at h
    · rename_i s r hx hy
      obtain ⟨q, hq, rfl⟩ := of_still h
      exact ok_index ho hx hy hq
    · cases h
  case h_21 x i ho =>
    split at h
    · rename_i s hx
      obtain ⟨q, hq, rfl⟩ := of_still h
      exact ok_extract ho hx hq
    · cases h
  case h_22 c ho =>
    split at h
    · rename_i b hb
      unfold evBuiltin at h
      split at h
      · rename_i x y t t' h1 h2
        cases ht : Nat.beq t t' with
        | false => simp [ht] at h
        | true =>
          simp only [ht, cond_true] at h
          have ht' : t = t' := Nat.eq_of_beq_eq_true ht
          subst ht'
          split at h
          · rename_i s r hx hy
            exact ok_append ho hb (args_of h1) (types_of h2) hx hy h
          · cases h
      · rename_i x t h1 h2
        split at h
        · rename_i s hx
          split at h
          · rename_i q hq
            injection h with h
            subst h
            exact ok_len ho hb (args_of h1) (types_of h2) hx hq
          · split at h
            · rename_i q hq
              injection h with h
              subst h
              exact ok_lenM ho hb (args_of h1) (types_of h2) hx hq
            · obtain ⟨q, hq, rfl⟩ := of_still h
              exact ok_builtinP ho hb (by rw [h1]; simp [sigL, hx]) hq
        · cases h
      · rename_i x t h1 h2
        split at h
        · rename_i s hx
          split at h
          · rename_i q hq
            injection h with h
            subst h
            exact ok_cap ho hb (args_of h1) (types_of h2) hx hq
          · obtain ⟨q, hq, rfl⟩ := of_still h
            exact ok_builtinP ho hb (by rw [h1]; simp [sigL, hx]) hq
        · cases h
      · rename_i x y t t' h1 h2
        split at h
        · rename_i m k hx hy
          exact ok_delete ho hb (args_of h1) (types_of h2) hx hy h
        · cases h
      · rename_i x t h1 h2
        split at h
        · rename_i s hx
          split at h
          · rename_i q hq
            injection h with h
            subst h
            exact ok_clear ho hb (args_of h1) (types_of h2) hx hq
          · obtain ⟨q, hq, rfl⟩ := of_still h
            exact ok_builtinP ho hb (by rw [h1]; simp [sigL, hx]) hq
        · cases h
      · split at h
        · rename_i ss hx
          obtain ⟨q, hq, rfl⟩ := of_still h
          exact ok_builtinP ho hb hx hq
        · cases h
    · cases h
  case h_23 t ho =>
    injection h with h
    subst h
    exact ok_makeMap ho
  case h_24 t x y ok ho =>
    split at h
    · rename_i s r hx hy
      obtain ⟨q, hq, rfl⟩ := of_still h
      exact ok_lookup ho hx hy hq
    · cases h
  case h_25 t x y z ho =>
    split at h
    · rename_i m k v hx hy hz
      exact ok_mapUpdate ho hx hy hz h
    · cases h
  case h_26 t x ho =>
    split at h
    · rename_i s hx
      exact ok_range ho hx h
    · cases h
  case h_27 x ho =>
    split at h
    · rename_i s hx
      obtain ⟨q, hq, rfl⟩ := of_still h
      exact ok_entry ho hx hq
    · cases h
  case h_28 t x y ho =>
    split at h
    · rename_i s r hx hy
      exact ok_makeSlice ho hx hy h
    · cases h
  case h_29 => cases h
end
end Ev
end Go.Proofs.YtekhboekiehdhaaGreatDoor
