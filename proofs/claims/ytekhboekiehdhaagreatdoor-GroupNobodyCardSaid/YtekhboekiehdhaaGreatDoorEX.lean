/- The machine's own functions that a sort reaches (reflectlite), over names. -/
import Derived.Test.YtekhboekiehdhaaGreatDoorEB
import Derived.Lib.ReflectliteSwap
import Derived.Laws.Externs
set_option linter.unusedVariables false
set_option linter.unusedSimpArgs false
namespace Go.Proofs.YtekhboekiehdhaaGreatDoor
namespace Ev
open Go.RowKit Go.Lib Go.Extern

inductive XK where
  | valueOf
  | len
  | swapper (fs : List (Nat × FuncId))
  | swap (g : Bool)
def semOf : XK → Array Value → Sem Value
  | .valueOf => fun args => ReflectliteValue.unpack (args.getD 0 (.tuple #[]))
  | .len => ReflectliteValue.method (ReflectliteValue.valueError "reflectlite.Value.Len" 0) ReflectliteValue.len
  | .swapper _ => ReflectliteSwapper.swapper "internal/reflectlite" (ReflectliteValue.valueError "Swapper")
  | .swap g => ReflectliteSwapper.swap g
/-- The table is right. -/
structure XOK (P : Program) (X : List (FuncId × XK)) : Prop where
  sem : ∀ k kd, (k, kd) ∈ X → ∀ args w, (callFunc k args).run P w = ((semOf kd args).run P w).andThen fun v w' => .ok (.value v) w'
  lits : ∀ k fs, (k, .swapper fs) ∈ X → ∀ q f, (q, f) ∈ fs → P.funcs.findIdx? (·.name == "internal/reflectlite" ++ ".Swapper$" ++ toString q) = some f
def xget : List (FuncId × XK) → FuncId → Option XK
  | [], _ => none
  | (k, d) :: r, n => bif Nat.beq k n then some d else xget r n
theorem xget_mem : ∀ {l : List (FuncId × XK)} {n : FuncId} {d : XK}, xget l n = some d → (n, d) ∈ l
  | [], n, d, h => by cases h
  | (k, e) :: r, n, d, h => by
    simp only [xget] at h
    cases hb : Nat.beq k n with
    | true =>
      rw [hb] at h
      simp only [cond_true] at h
      injection h with h
      subst h
      have : k = n := Nat.eq_of_beq_eq_true hb
      subst this
      simp
    | false =>
      rw [hb] at h
      simp only [cond_false] at h
      simp [xget_mem h]
def fget : List (Nat × FuncId) → Nat → Option FuncId
  | [], _ => none
  | (k, d) :: r, n => bif Nat.beq k n then some d else fget r n
theorem fget_mem : ∀ {l : List (Nat × FuncId)} {n : Nat} {d : FuncId}, fget l n = some d → (n, d) ∈ l
  | [], n, d, h => by cases h
  | (k, e) :: r, n, d, h => by
    simp only [fget] at h
    cases hb : Nat.beq k n with
    | true =>
      rw [hb] at h
      simp only [cond_true] at h
      injection h with h
      subst h
      have : k = n := Nat.eq_of_beq_eq_true hb
      subst this
      simp
    | false =>
      rw [hb] at h
      simp only [cond_false] at h
      simp [fget_mem h]
/-- A type of slices. -/
def sliceTy (P : Program) (t : TypeId) : Option TypeId := match P.info? t with
  | some i => match i.desc with
    | .slice e => some e
    | _ => none
  | none => none
theorem sliceTy_info {P : Program} {t e : TypeId} (h : sliceTy P t = some e) : ∃ i, P.info? t = some i ∧ i.desc = .slice e := by
  unfold sliceTy at h
  split at h
  · rename_i i hi
    split at h
    · rename_i e' hd
      injection h with h
      subst h
      exact ⟨i, hi, hd⟩
    · cases h
  · cases h
/-- How long a slice is. -/
def lenS : SV → Option Nat
  | .sl _ _ len _ _ => some len
  | .lit (.slice none n _) => some n
  | _ => none
theorem lenS_den {s : SV} {n : Nat} {ρ : Env} {v : Value} (h : lenS s = some n) (hd : den ρ s = some v) : ∃ p c, v = .slice p n c := by
  unfold lenS at h
  split at h
  · rename_i m off len cap k
    injection h with h
    subst h
    cases hr : ρ m with
    | none => simp [den, hr] at hd
    | some p =>
      obtain ⟨c, hv, _⟩ := den_sl hr hd
      exact ⟨_, c, hv⟩
  · rename_i m c
    injection h with h
    subst h
    simp [den] at hd
    exact ⟨none, c, hd.symm⟩
  · cases h
theorem lenS_one {s : SV} {n : Nat} (h : lenS s = some n) : s.cells = [s] := by
  unfold lenS at h
  split at h
  · rfl
  · rfl
  · cases h
/-- A type's handle. -/
def handleS (P : Program) : SV → Option TypeId
  | .lit (.pointer (some ⟨b, t, none⟩)) => bif Nat.beq b P.globals.size then some t else none
  | _ => none
theorem handleS_den {P : Program} {s : SV} {t : TypeId} {ρ : Env} {v : Value} (h : handleS P s = some t) (hd : den ρ s = some v) : v = typeHandle P t := by
  unfold handleS at h
  split at h
  · rename_i b t'
    cases hb : Nat.beq b P.globals.size with
    | false => rw [hb] at h; cases h
    | true =>
      rw [hb] at h
      simp only [cond_true] at h
      injection h with h
      subst h
      have : b = P.globals.size := Nat.eq_of_beq_eq_true hb
      subst this
      simp [den] at hd
      exact hd.symm
  · cases h
def spliceL (cs : List SV) (off : Nat) (v : List SV) : List SV := cs.take off ++ v ++ cs.drop (off + v.length)
theorem spliceL_length {cs : List SV} {off : Nat} {v : List SV} (h : off + v.length ≤ cs.length) : (spliceL cs off v).length = cs.length := by
  simp [spliceL]
  omega
def evSwap (P : Program) (i j : SV) (s h : SV) (H : Heap) (nx : Nat) : Option Out :=
  match i, j, s with
  | .lit (.int .i64 (.ofNat a)), .lit (.int .i64 (.ofNat b)), .sl n off len _ _ => match handleS P h with
    | some e => match szOf P e, H.get n with
      | some k, some ⟨false, .row cs el slack⟩ => match loadS P e cs (off + a * k), loadS P e cs (off + b * k) with
        | some x, some y => bif Nat.blt a len && Nat.blt b len && x.cells.all SV.one && y.cells.all SV.one && Nat.beq x.cells.length k && Nat.beq y.cells.length k && Nat.ble (off + a * k + k) cs.length && Nat.ble (off + b * k + k) cs.length then
            some (.lit (.tuple #[]), (H.put n (some ⟨false, .row (spliceL cs (off + a * k) y.cells) el slack⟩)).put n (some ⟨false, .row (spliceL (spliceL cs (off + a * k) y.cells) (off + b * k) x.cells) el slack⟩), nx)
          else none
        | _, _ => none
      | _, _ => none
    | none => none
  | _, _, _ => none
def evExt (P : Program) (X : List (FuncId × XK)) : Caller := fun k args H nx =>
  match xget X k with
  | some .valueOf => match args with
    | [.ifc t s] => match sliceTy P t, lenS s with
      | some _, some _ => some (.agg [.lit (typeHandle P t), .ptr nx 0, .lit (.int .u64 151)], H.put nx (some ⟨false, .row [s] t false⟩), nx + 1)
      | _, _ => none
    | _ => none
  | some .len => match args with
    | [.agg [h, .ptr n off, .lit (.int .u64 151)]] => match handleS P h with
      | some t => match sliceTy P t, P.packed t, H.get n with
        | some _, false, some ⟨_, .row cs _ _⟩ => match cs[off]? with
          | some s => match lenS s with
            | some m => some (.lit (.int .i64 m), H, nx)
            | none => none
          | none => none
        | _, _, _ => none
      | none => none
    | _ => none
  | some (.swapper fs) => match args with
    | [.ifc t s] => match sliceTy P t, lenS s with
      | some e, some n => match P.info? e, pr P (Rtype.kind e) with
        | some ie, some ke => match fget fs (swapperK n ie ke) with
          | some f => some (.fn (.func f) [] (bif Nat.ble (swapperK n ie ke) 2 then [] else [s, .lit (typeHandle P e)]), H, nx)
          | none => none
        | _, _ => none
      | _, _ => none
    | _ => none
  | some (.swap _) => match args with
    | [i, j, s, h] => evSwap P i j s h H nx
    | _ => none
  | none => none

section
variable {P : Program} {base : Nat} {H : Heap} {nx : Nat} {out : Out}
/-- One variable of a row is written. -/
theorem store_row {n b k off : Nat} {t e : TypeId} {cs : List SV} {slack : Bool} {s : SV} {v : Value} {ρ : Env} {w : World} {sz : Nat} (hs : Sat base ρ H.get w) (hg : H.get n = some ⟨false, .row cs e slack⟩) (hb : ρ n = some (b, sz)) (hk : szOf P t = some k)
    (hd : den ρ s = some v) (h1 : s.cells.all SV.one = true) (h2 : s.cells.length = k) (h3 : off + k ≤ cs.length) :
    ∃ w', (storeVar t ⟨b, off, none⟩ v).run P w = .ok () w' ∧ Sat base ρ (H.put n (some ⟨false, .row (spliceL cs off s.cells) e slack⟩)).get w' ∧ Keep H.get ρ w (H.put n (some ⟨false, .row (spliceL cs off s.cells) e slack⟩)).get ρ w' := by
  obtain ⟨hd1, hd2⟩ := den_cells h1 hd
  obtain ⟨b', vs, rest, g1, g2, g3, g4⟩ := hs.row hg
  rw [hb] at g1
  injection g1 with g1
  injection g1 with g1 g1'
  subst g1
  have hlen := denL_length g3
  have hvl : v.cells.size = k := by have := denL_length hd1; simp at this; omega
  have hrun := run_storeVar (P := P) (off := off) hk hvl hd2 (by simp; omega) g2
  have hlist : (vs ++ rest).take off ++ v.cells.toList ++ (vs ++ rest).drop (off + k) = (vs.take off ++ v.cells.toList ++ vs.drop (off + k)) ++ rest := by
    rw [List.take_append_of_le_length (by omega), List.drop_append_of_le_length (by omega)]
    simp
  rw [hlist] at hrun
  obtain ⟨h5, h6⟩ := sat_set (cs' := spliceL cs off s.cells) (slack' := slack) hs hg (hb.trans (by rw [g1'])) g2 (by unfold spliceL; rw [h2]; exact denL_append (denL_append (denL_take off g3) hd1) (denL_drop (off + k) g3)) g4 (by simp; omega)
  exact ⟨_, hrun, h5, h6⟩
theorem ok_swap {X : List (FuncId × XK)} (hX : XOK P X) {k : FuncId} {g : Bool} (hk : (k, .swap g) ∈ X) {i j s h : SV} (he : evSwap P i j s h H nx = some out) : CallOK P base k [i, j, s, h] H nx out := by
  unfold evSwap at he
  split at he
  case h_2 => cases he
  rename_i a b n off len cap kk
  split at he
  case h_2 => cases he
  rename_i e hh
  split at he
  case h_2 => cases he
  rename_i sz cs el slack hsz hg
  split at he
  case h_2 => cases he
  rename_i x y hx hy
  cases hc : (Nat.blt a len && Nat.blt b len && x.cells.all SV.one && y.cells.all SV.one && Nat.beq x.cells.length sz && Nat.beq y.cells.length sz && Nat.ble (off + a * sz + sz) cs.length && Nat.ble (off + b * sz + sz) cs.length) with
  | false => rw [hc] at he; cases he
  | true =>
    rw [hc] at he
    simp only [cond_true] at he
    injection he with he
    subst he
    simp only [Bool.and_eq_true] at hc
    obtain ⟨⟨⟨⟨⟨⟨⟨c1, c2⟩, c3⟩, c4⟩, c5⟩, c6⟩, c7⟩, c8⟩ := hc
    have d1 : a < len := ble_true c1
    have d2 : b < len := ble_true c2
    have d5 : x.cells.length = sz := Nat.eq_of_beq_eq_true c5
    have d6 : y.cells.length = sz := Nat.eq_of_beq_eq_true c6
    have d7 := ble_true c7
    have d8 := ble_true c8
    have hdom1 := dom_set H n _ (.row (spliceL cs (off + a * sz) y.cells) el slack) hg nx nx
    have hg1 : (H.put n (some ⟨false, .row (spliceL cs (off + a * sz) y.cells) el slack⟩)).get n = some ⟨false, .row (spliceL cs (off + a * sz) y.cells) el slack⟩ := PT.get_put_same _ _ _
    have hdom2 := dom_set (H.put n (some ⟨false, .row (spliceL cs (off + a * sz) y.cells) el slack⟩)) n _ (.row (spliceL (spliceL cs (off + a * sz) y.cells) (off + b * sz) x.cells) el slack) hg1 nx nx
    refine ⟨Nat.le_refl _, hdom1.trans hdom2 (Nat.le_refl _) (Nat.le_refl _), fun ρ vals w hd hs hf => .inr ?_⟩
    obtain ⟨v1, us1, q1, q2, rfl⟩ := denL_cons.1 hd
    obtain ⟨v2, us2, q3, q4, rfl⟩ := denL_cons.1 q2
    obtain ⟨v3, us3, q5, q6, rfl⟩ := denL_cons.1 q4
    obtain ⟨v4, us4, q7, q8, rfl⟩ := denL_cons.1 q6
    simp [denL] at q8
    subst q8
    simp [den] at q1 q3
    subst q1
    subst q3
    have hv4 := handleS_den hh q7
    subst hv4
    obtain ⟨bb, vs, rest, g1, g2, g3, g4⟩ := hs.row hg
    obtain ⟨c', hv3, _⟩ := den_sl g1 q5
    subst hv3
    obtain ⟨vx, lx, dx⟩ := run_loadVar (P := P) hx g3 g2
    obtain ⟨vy, ly, dy⟩ := run_loadVar (P := P) hy g3 g2
    obtain ⟨w1, r1, s1, k1⟩ := store_row hs hg g1 hsz dy c4 d6 d7
    obtain ⟨w2, r2, s2, k2⟩ := store_row (off := off + b * sz) s1 hg1 g1 hsz dx c3 d5 (by rw [spliceL_length (by omega)]; exact d8)
    refine ⟨ρ, .tuple #[], w2, ?_, Ext.refl _ _ _, rfl, s2, k1.trans k2⟩
    have hrun : (ReflectliteSwapper.swap g #[.int .i64 (Int.ofNat a), .int .i64 (Int.ofNat b), .slice (some ⟨bb, off, none⟩) len c', typeHandle P e]).run P w = .ok (.tuple #[]) w2 := by
      rw [rl_swap]
      have n1 : ¬ ((a : Int) < 0) := by omega
      have n2 : ¬ ((len : Int) ≤ (a : Int)) := by omega
      have n3 : ¬ ((b : Int) < 0) := by omega
      have n4 : ¬ ((len : Int) ≤ (b : Int)) := by omega
      cases g <;> simp [n1, n2, n3, n4, Rtype.ofHandle, handleType, typeHandle, ReflectliteSwapper.exchange, run_size hsz, Addr.add_lit, lx, ly, r1, r2]
    rw [hX.sem k _ hk]
    simp only [semOf]
    simp only [Int.ofNat_eq_natCast] at hrun
    rw [hrun]
    rfl
theorem ext_ok {X : List (FuncId × XK)} (hX : XOK P X) {k : FuncId} {args : List SV} (h : evExt P X k args H nx = some out) : CallOK P base k args H nx out := by
  unfold evExt at h
  split at h
  · rename_i hk
    have hm := xget_mem hk
    split at h
    case h_2 => cases h
    rename_i t s
    split at h
    case h_2 => cases h
    rename_i e n ht hl
    injection h with h
    subst h
    obtain ⟨i, hi, hdsc⟩ := sliceTy_info ht
    refine ⟨by simp, dom_new _ _ _, fun ρ vals w hd hs hf => .inr ?_⟩
    obtain ⟨v, us, q1, q2, rfl⟩ := denL_cons.1 hd
    simp [denL] at q2
    subst q2
    cases hds : den ρ s with
    | none => simp [den, hds] at q1
    | some u =>
      simp [den, hds] at q1
      subst q1
      obtain ⟨p, c, rfl⟩ := lenS_den hl hds
      obtain ⟨ρ', g1, g2, g3, g4⟩ := sat_new (nx := nx) (cs := [s]) (vs := [.slice p n c]) (rest := []) t false hs (hf nx (Nat.le_refl _) (by simp)) (by simp [denL, hds]) (fun _ => rfl)
      refine ⟨ρ', .agg #[typeHandle P t, .pointer (some ⟨w.heap.size, 0, none⟩), .int .u64 151], _, ?_, g1, by simp [den, denL, g2], g3, g4⟩
      rw [hX.sem k _ hm]
      show ((ReflectliteValue.unpack (.iface t (.slice p n c))).run P w).andThen _ = _
      rw [run_valueOf_slice t e i hi hdsc p n c w]
      rfl
  · rename_i hk
    have hm := xget_mem hk
    split at h
    case h_2 => cases h
    rename_i hh n off
    split at h
    case h_2 => cases h
    rename_i t hht
    split at h
    case h_2 => cases h
    rename_i e lk cs el slack ht hpk hg
    split at h
    case h_2 => cases h
    rename_i s hcs
    split at h
    case h_2 => cases h
    rename_i m hl
    injection h with h
    subst h
    obtain ⟨i, hi, hdsc⟩ := sliceTy_info ht
    refine ⟨Nat.le_refl _, DomOK.refl _ _ _, fun ρ vals w hd hs hf => .inr ?_⟩
    obtain ⟨v, us, q1, q2, rfl⟩ := denL_cons.1 hd
    simp [denL] at q2
    subst q2
    obtain ⟨b, vs, rest, g1, g2, g3, g4⟩ := hs.row hg
    cases hdh : den ρ hh with
    | none => simp [den, denL, hdh] at q1
    | some hv =>
      have := handleS_den hht hdh
      subst this
      simp [den, denL, hdh, g1] at q1
      subst q1
      obtain ⟨u, hu, hdu⟩ := denL_get g3 hcs
      obtain ⟨p, c, rfl⟩ := lenS_den hl hdu
      have hlt : off < vs.length := (List.getElem?_eq_some_iff.1 hu).1
      have hcell : w.cell? ⟨b, off, none⟩ = some (.slice p m c) := by
        rw [cell_of g2]
        simp [List.getElem?_append_left hlt, hu]
      refine ⟨ρ, .int .i64 m, w, ?_, Ext.refl _ _ _, rfl, hs, Keep.refl _ _ _⟩
      rw [hX.sem k _ hm]
      show ((ReflectliteValue.method (ReflectliteValue.valueError "reflectlite.Value.Len" 0) ReflectliteValue.len #[.agg #[typeHandle P t, .pointer (some ⟨b, off, none⟩), .int .u64 151]]).run P w).andThen _ = _
      rw [run_valueLen_slice t e i hi hdsc hpk ⟨b, off, none⟩ p m c w hcell]
      rfl
  · rename_i fs hk
    have hm := xget_mem hk
    split at h
    case h_2 => cases h
    rename_i t s
    split at h
    case h_2 => cases h
    rename_i e n ht hl
    split at h
    case h_2 => cases h
    rename_i ie ke hie hke
    split at h
    case h_2 => cases h
    rename_i f hf'
    injection h with h
    subst h
    obtain ⟨i, hi, hdsc⟩ := sliceTy_info ht
    refine ⟨Nat.le_refl _, DomOK.refl _ _ _, fun ρ vals w hd hs hf => .inr ?_⟩
    obtain ⟨v, us, q1, q2, rfl⟩ := denL_cons.1 hd
    simp [denL] at q2
    subst q2
    cases hds : den ρ s with
    | none => simp [den, hds] at q1
    | some u =>
      simp [den, hds] at q1
      subst q1
      obtain ⟨p, c, rfl⟩ := lenS_den hl hds
      have hfi := hX.lits k fs hm _ f (fget_mem hf')
      have hrun := run_swapper_slice t e i ie hi hdsc hie ke (fun w => pr_run hke w) p n c f hfi w
      refine ⟨ρ, .func (.func f) #[] (if swapperK n ie ke ≤ 2 then #[] else #[.slice p n c, typeHandle P e]), w, ?_, Ext.refl _ _ _, ?_, hs, Keep.refl _ _ _⟩
      · rw [hX.sem k _ hm]
        show ((ReflectliteSwapper.swapper "internal/reflectlite" (ReflectliteValue.valueError "Swapper") #[.iface t (.slice p n c)]).run P w).andThen _ = _
        rw [hrun]
        rfl
      · cases hb : Nat.ble (swapperK n ie ke) 2 with
        | true =>
          rw [if_pos (ble_true hb)]
          simp [den, denL]
        | false =>
          have : ¬ swapperK n ie ke ≤ 2 := fun hle => by rw [Nat.ble_eq_true_of_le hle] at hb; cases hb
          rw [if_neg this]
          simp [den, denL, hds]
  · rename_i g hk
    have hm := xget_mem hk
    split at h
    case h_2 => cases h
    rename_i i j s hh
    exact ok_swap hX hm h
  · cases h
end
end Ev
end Go.Proofs.YtekhboekiehdhaaGreatDoor
