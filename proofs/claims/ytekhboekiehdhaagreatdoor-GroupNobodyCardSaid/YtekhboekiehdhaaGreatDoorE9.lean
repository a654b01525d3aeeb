/- A region that draws its order, run over names in one order, with the looks that make that order stand for all. -/
import Derived.Test.YtekhboekiehdhaaGreatDoorE8
set_option linter.unusedVariables false
set_option linter.unusedSimpArgs false
namespace Go.Proofs.YtekhboekiehdhaaGreatDoor
namespace Ev
open Go.RowKit

/-- What an operation waits for, directly and through others: a number by bits. -/
def maskOf (B : List Nat) (o : Oper) : Nat := o.after.toList.foldl (fun s e => bif Region.binds .any e then s ||| (2 ^ e.on ||| B.getD e.on 0) else s) 0
def befL : List Oper → List Nat → List Nat
  | [], acc => acc
  | o :: r, acc => befL r (acc ++ [maskOf acc o])
def chkB (B : List Nat) : List Oper → Nat → Bool
  | [], _ => true
  | o :: r, i => Nat.beq (B.getD i 0) (maskOf B o) && o.after.toList.all (fun e => !Region.binds .any e || Nat.blt e.on i) && chkB B r (i + 1)
theorem chkB_spec {B : List Nat} : ∀ {l : List Oper} {i : Nat}, chkB B l i = true → ∀ (j : Nat) (o : Oper), l[j]? = some o → B.getD (i + j) 0 = maskOf B o ∧ ∀ e ∈ o.after, Region.binds .any e = true → e.on < i + j
  | [], i, h, j, o, e => by simp at e
  | q :: r, i, h, 0, o, e => by
    simp at e
    subst e
    simp only [chkB, Bool.and_eq_true] at h
    refine ⟨Nat.eq_of_beq_eq_true h.1.1, fun e he hb => ?_⟩
    have := List.all_eq_true.1 h.1.2 e (by simpa using he)
    simp only [hb, Bool.not_true, Bool.false_or] at this
    exact ble_true this
  | q :: r, i, h, j + 1, o, e => by
    simp only [chkB, Bool.and_eq_true] at h
    have := chkB_spec h.2 j o (by simpa using e)
    rw [show i + (j + 1) = i + 1 + j by omega]
    exact this
theorem foldl_mask {B : List Nat} : ∀ (l : List Edge) (s k : Nat), hasBit (l.foldl (fun s e => bif Region.binds .any e then s ||| (2 ^ e.on ||| B.getD e.on 0) else s) s) k = true → hasBit s k = true ∨ ∃ e ∈ l, Region.binds .any e = true ∧ (e.on = k ∨ hasBit (B.getD e.on 0) k = true)
  | [], s, k, h => .inl h
  | e :: r, s, k, h => by
    simp only [List.foldl_cons] at h
    rcases foldl_mask r _ k h with h | ⟨x, hx, h1, h2⟩
    · cases hb : Region.binds .any e with
      | false => rw [hb] at h; exact .inl h
      | true =>
        rw [hb] at h
        simp only [cond_true, hasBit, Nat.testBit_or, Bool.or_eq_true] at h
        rcases h with h | h | h
        · exact .inl h
        · refine .inr ⟨e, by simp, hb, .inl ?_⟩
          rw [Nat.testBit_two_pow] at h
          simpa using h
        · exact .inr ⟨e, by simp, hb, .inr h⟩
    · exact .inr ⟨x, by simp [hx], h1, h2⟩
def isCallB (o : Oper) : Bool := match o.op with
  | .call c => match c.callee with
    | .builtin _ => false
    | _ => true
  | _ => false
def readyB (done : Nat) (o : Oper) : Bool := o.after.toList.all fun e => !Region.binds .any e || Nat.testBit done e.on
def ordL (ops : List (Nat × Oper)) : Nat → Nat → List Nat
  | 0, _ => []
  | f + 1, done => match ops.find? (fun p => !Nat.testBit done p.1 && readyB done p.2 && !isCallB p.2) with
    | some p => p.1 :: ordL ops f (done ||| 2 ^ p.1)
    | none => match ops.find? (fun p => !Nat.testBit done p.1 && readyB done p.2) with
      | some p => p.1 :: ordL ops f (done ||| 2 ^ p.1)
      | none => []
def numbered : List Oper → Nat → List (Nat × Oper)
  | [], _ => []
  | o :: r, i => (i, o) :: numbered r (i + 1)

/-- The names that an operation that calls nothing touches. -/
def fpOf (o : Oper) (σ : Sig) (H : Heap) : List (Nat × Bool) :=
  match o.op with
  | .load _ x => match σ x with
    | some (.ptr n _) => [(n, false)]
    | _ => []
  | .store _ x _ => match σ x with
    | some (.ptr n _) => [(n, true)]
    | _ => []
  | .lookup _ x _ _ => match σ x with
    | some (.mp n) => [(n, false)]
    | _ => []
  | .mapUpdate _ x _ _ => match σ x with
    | some (.mp n) => [(n, true)]
    | _ => []
  | .range _ x => match σ x with
    | some (.mp n) => [(n, false)]
    | _ => []
  | .entry x => match σ x with
    | some (.ptr n _) => (match H.get n with | some ⟨_, .iter (some m) _ _ _⟩ => [(n, false), (m, false)] | _ => [])
    | _ => []
  | .convert _ _ x => match σ x with
    | some (.sl n _ _ _ _) => [(n, false)]
    | _ => []
  | .slice _ x _ _ _ => match σ x with
    | some (.sl n _ _ none _) => [(n, false)]
    | _ => []
  | .call c => match c.callee, c.args.toList with
    | .builtin .append, [x, y] => (match σ y with | some (.sl m _ _ _ _) => [(m, false)] | _ => []) ++ (match σ x with | some (.sl n _ _ _ _) => [(n, true)] | _ => [])
    | .builtin .clear, [x] => (match σ x with | some (.sl n _ _ _ _) => [(n, true)] | _ => [])
    | .builtin .len, [x] => (match σ x with | some (.mp n) => [(n, false)] | _ => [])
    | .builtin .delete, [x, _] => (match σ x with | some (.mp n) => [(n, true)] | _ => [])
    | _, _ => []
  | _ => []
def partOf (H : Heap) : List (Nat × Bool) → Heap → Heap
  | [], G => G
  | (n, wr) :: r, G => match H.get n with
    | some sl => partOf H r (G.put n (some ⟨sl.lock || !wr, sl.o⟩))
    | none => partOf H r G
def lockAll (H : Heap) : List Nat → Heap → Heap
  | [], G => G
  | n :: r, G => match H.get n with
    | some sl => lockAll H r (G.put n (some ⟨true, sl.o⟩))
    | none => lockAll H r G
def dropAll : List Nat → Heap → Heap
  | [], G => G
  | n :: r, G => dropAll r (G.put n none)
/-- From G' what may have been written, the rest stays. -/
def takeNew (G G' : Heap) (lo hi : Nat) : List Nat → Heap → Heap
  | [], H => H
  | n :: r, H => bif wB G.get lo hi n then takeNew G G' lo hi r (H.put n (G'.get n)) else takeNew G G' lo hi r H
/-- From H what was not to be written. -/
def takeOld (G : Heap) (H : Heap) (lo hi : Nat) : List Nat → Heap → Heap
  | [], K => K
  | n :: r, K => bif wB G.get lo hi n then takeOld G H lo hi r K else takeOld G H lo hi r (K.put n (H.get n))
theorem partOf_get {H : Heap} : ∀ (l : List (Nat × Bool)) (G : Heap) (x : Nat) (s : Slot), (partOf H l G).get x = some s → G.get x = some s ∨ (x ∈ l.map (·.1) ∧ ∃ t, H.get x = some t ∧ t.o = s.o ∧ (s.lock = false → t.lock = false))
  | [], G, x, s, h => .inl h
  | (n, wr) :: r, G, x, s, h => by
    simp only [partOf] at h
    split at h
    · rename_i sl hsl
      rcases partOf_get r _ x s h with h | ⟨h1, h2⟩
      · rw [PT.get_put] at h
        split at h
        · rename_i e
          injection h with h
          subst h
          subst e
          exact .inr ⟨by simp, sl, hsl, rfl, fun hl => by simp only [Bool.or_eq_false_iff] at hl; exact hl.1⟩
        · exact .inl h
      · exact .inr ⟨by simp only [List.map_cons, List.mem_cons]; exact .inr h1, h2⟩
    · rcases partOf_get r _ x s h with h | ⟨h1, h2⟩
      · exact .inl h
      · exact .inr ⟨by simp only [List.map_cons, List.mem_cons]; exact .inr h1, h2⟩
theorem lockAll_get {H : Heap} : ∀ (l : List Nat) (G : Heap) (x : Nat) (s : Slot), (∀ x s, G.get x = some s → ∃ t, H.get x = some t ∧ t.o = s.o ∧ (s.lock = false → t.lock = false) ∧ (x ∈ l ∨ True)) → (lockAll H l G).get x = some s →
    (G.get x = some s) ∨ (x ∈ l ∧ ∃ t, H.get x = some t ∧ t.o = s.o ∧ s.lock = true)
  | [], G, x, s, hG, h => .inl h
  | n :: r, G, x, s, hG, h => by
    simp only [lockAll] at h
    split at h
    · rename_i sl hsl
      rcases lockAll_get r _ x s (fun y t hy => by
        rw [PT.get_put] at hy
        split at hy
        · rename_i e
          injection hy with hy
          subst hy
          subst e
          exact ⟨sl, hsl, rfl, (fun hl => by cases hl), .inr trivial⟩
        · obtain ⟨t', g1, g2, g3, _⟩ := hG y t hy
          exact ⟨t', g1, g2, g3, .inr trivial⟩) h with h | ⟨h1, h2⟩
      · rw [PT.get_put] at h
        split at h
        · rename_i e
          injection h with h
          subst h
          subst e
          exact .inr ⟨by simp, sl, hsl, rfl, rfl⟩
        · exact .inl h
      · exact .inr ⟨by simp [h1], h2⟩
    · rcases lockAll_get r _ x s (fun y t hy => by
        obtain ⟨t', g1, g2, g3, _⟩ := hG y t hy
        exact ⟨t', g1, g2, g3, .inr trivial⟩) h with h | ⟨h1, h2⟩
      · exact .inl h
      · exact .inr ⟨by simp [h1], h2⟩
theorem dropAll_get : ∀ (l : List Nat) (G : Heap) (x : Nat) (s : Slot), (dropAll l G).get x = some s → G.get x = some s
  | [], G, x, s, h => h
  | n :: r, G, x, s, h => by
    have h1 := dropAll_get r _ x s h
    rw [PT.get_put] at h1
    split at h1
    · cases h1
    · exact h1
theorem takeNew_get {G G' : Heap} {lo hi : Nat} : ∀ (l : List Nat) (H : Heap) (x : Nat), (takeNew G G' lo hi l H).get x = if x ∈ l ∧ wB G.get lo hi x = true then G'.get x else H.get x
  | [], H, x => by simp [takeNew]
  | n :: r, H, x => by
    simp only [takeNew]
    cases hw : wB G.get lo hi n with
    | true =>
      simp only [cond_true, takeNew_get r, PT.get_put]
      by_cases hxn : x = n
      · subst hxn; simp [hw]
      · simp [hxn]
    | false =>
      simp only [cond_false, takeNew_get r]
      by_cases hxn : x = n
      · subst hxn; simp [hw]
      · simp [hxn]
theorem takeOld_get {G H : Heap} {lo hi : Nat} : ∀ (l : List Nat) (K : Heap) (x : Nat), (takeOld G H lo hi l K).get x = if x ∈ l ∧ wB G.get lo hi x = false then H.get x else K.get x
  | [], K, x => by simp [takeOld]
  | n :: r, K, x => by
    simp only [takeOld]
    cases hw : wB G.get lo hi n with
    | true =>
      simp only [cond_true, takeOld_get r]
      by_cases hxn : x = n
      · subst hxn; simp [hw]
      · simp [hxn]
    | false =>
      simp only [cond_false, takeOld_get r, PT.get_put]
      by_cases hxn : x = n
      · subst hxn; simp [hw]
      · simp [hxn]

structure DSt where
  T : PT SV
  H : Heap
  nx : Nat
  recs : List Rec
def tempsOK (ops : Array Oper) (U : List Rec) (o : Oper) : Bool :=
  U.all fun r => (match r.o.dst with
    | none => true
    | some d => !(looks ops o).contains d && !(o.dst == some d)) && (match o.dst with
    | none => true
    | some d => !(looks ops r.o).contains d)
def newOK (G : Heap) (lo hi : Nat) : Bool := (List.range' lo (hi - lo)).all fun x => (G.get x).isNone
theorem newOK_spec {G : Heap} {lo hi : Nat} (h : newOK G lo hi = true) {x : Nat} (h1 : lo ≤ x) (h2 : x < hi) : G.get x = none := by
  have := List.all_eq_true.1 h x (List.mem_range'_1.2 ⟨h1, by omega⟩)
  simpa using this
def heapOK (U : List Rec) (G : Heap) (lo hi : Nat) : Bool :=
  newOK G lo hi && U.all fun r => r.simple && r.writes.all (fun x => (G.get x).isNone) && r.names.all (fun x => !wB G.get lo hi x)
def early (m : Nat) (recs : List Rec) : List Rec := recs.filter fun r => !hasBit m r.i
def stepD (P : Program) (call : Caller) (ops : Array Oper) (nt : Nat) (B : List Nat) (i : Nat) (st : DSt) : Option DSt :=
  match ops[i]? with
  | none => none
  | some o =>
    bif !(st.recs.any fun r => r.i == i) && tempsOK ops (early (B.getD i 0) st.recs) o then
      match wantS ops st.T.get o with
      | none => none
      | some false => match putT st.T nt o.dst (.lit undef) with
        | some T' => some ⟨T', st.H, st.nx, ⟨i, o, false, .lit undef, st.T, .nil, .nil, st.nx, st.nx, [], [], true⟩ :: st.recs⟩
        | none => none
      | some true =>
        bif isCallB o then
          let U := early (B.getD i 0) st.recs
          let G := dropAll (U.flatMap (·.writes)) (lockAll st.H (U.flatMap (·.names)) st.H)
          match evOper P call o (sig st.T.get) G st.nx with
          | some (s, G', hi) =>
            bif heapOK U G st.nx hi then
              match putT st.T nt o.dst s with
              | some T' => some ⟨T', takeOld G st.H st.nx hi (U.flatMap (·.names)) G', hi, ⟨i, o, true, s, st.T, G, G', st.nx, hi, [], [], false⟩ :: st.recs⟩
              | none => none
            else none
          | none => none
        else
          let fp := fpOf o (sig st.T.get) st.H
          let G := partOf st.H fp .nil
          match evOper P call o (sig st.T.get) G st.nx with
          | some (s, G', hi) =>
            let names := fp.map (·.1) ++ List.range' st.nx (hi - st.nx)
            bif heapOK (early (B.getD i 0) st.recs) G st.nx hi then
              match putT st.T nt o.dst s with
              | some T' => some ⟨T', takeNew G G' st.nx hi names st.H, hi, ⟨i, o, true, s, st.T, G, G', st.nx, hi, names, names.filter (wB G.get st.nx hi), true⟩ :: st.recs⟩
              | none => none
            else none
          | none => none
    else none
def runD (P : Program) (call : Caller) (ops : Array Oper) (nt : Nat) (B : List Nat) : List Nat → DSt → Option DSt
  | [], st => some st
  | i :: r, st => match stepD P call ops nt B i st with
    | some st' => runD P call ops nt B r st'
    | none => none
def evDraw (P : Program) (call : Caller) (ops : Array Oper) (nt : Nat) (st : St) : Option St :=
  let B := befL ops.toList []
  bif chkB B ops.toList 0 then
    match runD P call ops nt B (ordL (numbered ops.toList 0) ops.size 0) ⟨st.1, st.2.1, st.2.2, []⟩ with
    | some d => bif (List.range ops.size).all (fun i => d.recs.any fun r => r.i == i) then some (d.T, d.H, d.nx) else none
    | none => none
  else none

section
variable {P : Program} {base : Nat} {call : Caller} {ops : Array Oper} {nt : Nat} {B : List Nat} {T0 : Nat → Option SV} {H0 : Nat → Option Slot} {lo0 : Nat}
structure Lists (r : Rec) : Prop where
  writes : r.simple = true → ∀ x, wB r.G.get r.lo r.hi x = true → x ∈ r.writes
  names : r.simple = true → ∀ x, ((∃ s, r.G.get x = some s) ∨ (r.lo ≤ x ∧ x < r.hi)) → x ∈ r.names
/-- What holds while a region is run. -/
structure DInv (P : Program) (base : Nat) (ops : Array Oper) (nt : Nat) (B : List Nat) (T0 : Nat → Option SV) (H0 : Nat → Option Slot) (lo0 : Nat) (st : DSt) : Prop where
  good : AllGood P base ops nt B T0 H0 st.recs
  lists : ∀ r ∈ st.recs, Lists r
  temps : ∀ t s, st.T.get t = some s → tAt T0 st.recs (fun _ => true) t = some s
  heap : ∀ x s, st.H.get x = some s → hAt H0 st.recs (fun _ => true) x = some s
  bound : ∀ r ∈ st.recs, lo0 ≤ r.lo ∧ r.hi ≤ st.nx
  dom : DomOK H0 st.H.get lo0 st.nx
  le : lo0 ≤ st.nx
theorem putT_get {T T' : PT SV} {dst : Option Tmp} {s : SV} (h : putT T nt dst s = some T') : (∀ d, dst = some d → d < nt) ∧ ∀ t u, T'.get t = some u → (dst = some t ∧ u = s) ∨ (dst ≠ some t ∧ T.get t = some u) := by
  cases dst with
  | none => simp [putT] at h; subst h; exact ⟨(fun d e => by cases e), fun t u e => .inr ⟨by simp, e⟩⟩
  | some d =>
    simp only [putT] at h
    cases hb : Nat.blt d nt with
    | false => simp [hb] at h
    | true =>
      simp only [hb, cond_true] at h
      injection h with h
      subst h
      refine ⟨(fun d' e => by injection e with e; subst e; exact ble_true hb), fun t u e => ?_⟩
      rw [PT.get_put] at e
      split at e
      · rename_i ht
        injection e with e
        exact .inl ⟨by rw [ht], e.symm⟩
      · rename_i ht
        exact .inr ⟨fun e' => ht (by injection e' with e'; exact e'.symm), e⟩
theorem tempsOK_spec {U : List Rec} {o : Oper} (h : tempsOK ops U o = true) : ∀ r ∈ U, (∀ d, r.o.dst = some d → d ∉ looks ops o ∧ o.dst ≠ some d) ∧ (∀ d, o.dst = some d → d ∉ looks ops r.o) := by
  intro r hr
  have := List.all_eq_true.1 h r hr
  simp only [Bool.and_eq_true] at this
  obtain ⟨h1, h2⟩ := this
  refine ⟨fun d hd => ?_, fun d hd => ?_⟩
  · rw [hd] at h1
    simp only [Bool.and_eq_true, Bool.not_eq_true', List.contains_eq_mem, decide_eq_false_iff_not] at h1
    exact ⟨h1.1, by have := h1.2; simpa using this⟩
  · rw [hd] at h2
    simpa using h2
theorem heapOK_spec {U : List Rec} {G : Heap} {lo hi : Nat} (h : heapOK U G lo hi = true) : ∀ r ∈ U, Lists r → (∀ x s, G.get x = some s → wB r.G.get r.lo r.hi x = false) ∧ (∀ x, (∀ s, r.G.get x = some s → wB G.get lo hi x = false) ∧ (r.lo ≤ x → x < r.hi → wB G.get lo hi x = false)) := by
  intro r hr hl
  simp only [heapOK, Bool.and_eq_true] at h
  have := List.all_eq_true.1 h.2 r hr
  simp only [Bool.and_eq_true] at this
  obtain ⟨⟨h1, h2⟩, h3⟩ := this
  refine ⟨fun x s hx => ?_, fun x => ⟨fun s hs => ?_, fun g1 g2 => ?_⟩⟩
  · cases hw : wB r.G.get r.lo r.hi x with
    | false => rfl
    | true =>
      have := List.all_eq_true.1 h2 x (hl.writes h1 x hw)
      rw [hx] at this
      cases this
  · have := List.all_eq_true.1 h3 x (hl.names h1 x (.inl ⟨s, hs⟩))
    simpa using this
  · have := List.all_eq_true.1 h3 x (hl.names h1 x (.inr ⟨g1, g2⟩))
    simpa using this
theorem mem_early {m : Nat} {recs : List Rec} {k : Rec} (h : k ∈ recs) (hb : hasBit m k.i = false) : k ∈ early m recs := List.mem_filter.2 ⟨h, by simp [hb]⟩
theorem stepD_ok (hP : NoCount P) (hcall : ∀ k args H nx out, call k args H nx = some out → CallOK P base k args H nx out) {i : Nat} {st st' : DSt} (hI : DInv P base ops nt B T0 H0 lo0 st) (h : stepD P call ops nt B i st = some st') :
    DInv P base ops nt B T0 H0 lo0 st' ∧ st.nx ≤ st'.nx := by
  unfold stepD at h
  split at h
  · cases h
  rename_i o ho
  cases hc : (!(st.recs.any fun r => r.i == i) && tempsOK ops (early (B.getD i 0) st.recs) o) with
  | false => rw [hc] at h; cases h
  | true =>
  simp only [hc, cond_true] at h
  simp only [Bool.and_eq_true, Bool.not_eq_true'] at hc
  obtain ⟨honce, htemps⟩ := hc
  have honce' : ∀ k ∈ st.recs, k.i ≠ i := by
    intro k hk e
    have : (st.recs.any fun r => r.i == i) = true := List.any_eq_true.2 ⟨k, hk, by simp [e]⟩
    rw [honce] at this
    cases this
  have htspec := tempsOK_spec htemps
  split at h
  · cases h
  · -- not wanted
    rename_i hw
    split at h
    case h_2 => cases h
    rename_i T' hp
    injection h with h
    subst h
    obtain ⟨p1, p2⟩ := putT_get hp
    have hwf : ∀ x, wB (PT.nil : Heap).get st.nx st.nx x = false := by
      intro x
      cases hwx : wB (PT.nil : Heap).get st.nx st.nx x with
      | false => rfl
      | true =>
        rcases wB_true hwx with ⟨h1, h2⟩ | ⟨s, hs, _⟩
        · omega
        · cases hs
    refine ⟨⟨⟨⟨ho, hI.temps, hw, (fun e => by cases e), fun _ => ⟨rfl, hwf⟩, (fun x s hx => by cases hx), ?_, p1, honce', fun k hk => (hI.bound k hk).2, Nat.le_refl _⟩, hI.good⟩, ?_, ?_, ?_, ?_, hI.dom, hI.le⟩, Nat.le_refl _⟩
    · intro k hk hb
      obtain ⟨t1, t2⟩ := htspec k (mem_early hk hb)
      exact ⟨fun x s hx => (by cases hx), fun x => ⟨fun s hs => hwf x, fun _ _ => hwf x⟩, t1, t2⟩
    · intro r hr
      rcases List.mem_cons.1 hr with rfl | hr
      · refine ⟨fun _ x hx => ?_, fun _ x hx => ?_⟩
        · rw [hwf x] at hx; cases hx
        · rcases hx with ⟨s, hs⟩ | ⟨h1, h2⟩
          · cases hs
          · exact absurd h2 (by simp only at h1 ⊢; omega)
      · exact hI.lists r hr
    · intro t u ht
      simp only [tAt]
      rcases p2 t u ht with ⟨h1, h2⟩ | ⟨h1, h2⟩
      · rw [if_pos ⟨trivial, h1⟩, h2]
      · rw [if_neg (fun e => h1 e.2)]
        exact hI.temps t u h2
    · intro x s hx
      simp only [hAt]
      rw [hwf x, if_neg (by simp)]
      exact hI.heap x s hx
    · intro r hr
      rcases List.mem_cons.1 hr with rfl | hr
      · exact ⟨hI.le, Nat.le_refl _⟩
      · exact hI.bound r hr
  · -- wanted
    rename_i hw
    -- all that a record needs
    have fin : ∀ (G G' : Heap) (s : SV) (hi : Nat) (names writes : List Nat) (simple : Bool) (H' : Heap) (T' : PT SV), evOper P call o (sig st.T.get) G st.nx = some (s, G', hi) → heapOK (early (B.getD i 0) st.recs) G st.nx hi = true → putT st.T nt o.dst s = some T' →
        (∀ x s, G.get x = some s → ∃ t, st.H.get x = some t ∧ t.o = s.o ∧ (s.lock = false → t.lock = false)) → Lists ⟨i, o, true, s, st.T, G, G', st.nx, hi, names, writes, simple⟩ →
        (∀ x s, H'.get x = some s → (wB G.get st.nx hi x = true ∧ G'.get x = some s) ∨ (wB G.get st.nx hi x = false ∧ st.H.get x = some s)) →
        DInv P base ops nt B T0 H0 lo0 ⟨T', H', hi, ⟨i, o, true, s, st.T, G, G', st.nx, hi, names, writes, simple⟩ :: st.recs⟩ ∧ st.nx ≤ hi := by
      intro G G' s hi names writes simple H' T' he hh hp hpart hlist hH'
      have hstep := step_ok hP hcall he
      have hle : st.nx ≤ hi := hstep.1
      obtain ⟨p1, p2⟩ := putT_get hp
      have hhspec := heapOK_spec hh
      refine ⟨⟨⟨⟨ho, hI.temps, hw, fun _ => hstep, (fun e => by cases e), ?_, ?_, p1, honce', fun k hk => (hI.bound k hk).2, hle⟩, hI.good⟩, ?_, ?_, ?_, ?_, ?_, Nat.le_trans hI.le hle⟩, hle⟩
      · intro x s hx
        obtain ⟨t, h1, h2, h3⟩ := hpart x s hx
        exact ⟨t, hI.heap x t h1, h2, h3⟩
      · intro k hk hb
        have hm := mem_early hk hb
        obtain ⟨t1, t2⟩ := htspec k hm
        obtain ⟨q1, q2⟩ := hhspec k hm (hI.lists k hk)
        exact ⟨q1, q2, t1, t2⟩
      · intro r hr
        rcases List.mem_cons.1 hr with rfl | hr
        · exact hlist
        · exact hI.lists r hr
      · intro t u ht
        simp only [tAt]
        rcases p2 t u ht with ⟨h1, h2⟩ | ⟨h1, h2⟩
        · rw [if_pos ⟨trivial, h1⟩, h2]
        · rw [if_neg (fun e => h1 e.2)]
          exact hI.temps t u h2
      · intro x s hx
        simp only [hAt]
        rcases hH' x s hx with ⟨h1, h2⟩ | ⟨h1, h2⟩
        · rw [if_pos ⟨trivial, h1⟩]; exact h2
        · rw [h1, if_neg (by simp)]; exact hI.heap x s h2
      · intro r hr
        rcases List.mem_cons.1 hr with rfl | hr
        · exact ⟨hI.le, Nat.le_refl _⟩
        · exact ⟨(hI.bound r hr).1, Nat.le_trans (hI.bound r hr).2 hle⟩
      · have hd : DomOK st.H.get H'.get st.nx hi := by
          intro x s hx
          rcases hH' x s hx with ⟨h1, h2⟩ | ⟨h1, h2⟩
          · rcases hstep.2.1 x s h2 with g | ⟨t, g1, g2, g3⟩
            · exact .inl g
            · rcases wB_true h1 with ⟨k1, k2⟩ | ⟨u, hu, hul⟩
              · cases hl : s.lock with
                | false => exact .inl ⟨k1, k2, rfl⟩
                | true =>
                  have hnew := hh
                  simp only [heapOK, Bool.and_eq_true] at hnew
                  rw [newOK_spec hnew.1 k1 k2] at g1
                  cases g1
              · rw [g1] at hu
                injection hu with hu
                subst hu
                obtain ⟨t', a1, a2, a3⟩ := hpart x t g1
                exact .inr ⟨t', a1, by rw [← g2, hul, a3 hul], fun hl => by rw [a3 hul] at hl; cases hl⟩
          · exact .inr ⟨s, h2, rfl, fun _ => rfl⟩
        exact hI.dom.trans hd hI.le hle
    cases hcall' : isCallB o with
    | true =>
      simp only [hcall', cond_true] at h
      generalize hU : early (B.getD i 0) st.recs = U at h fin
      generalize hG : dropAll (U.flatMap (·.writes)) (lockAll st.H (U.flatMap (·.names)) st.H) = G at h
      split at h
      case h_2 => cases h
      rename_i s G' hi he
      cases hh : heapOK U G st.nx hi with
      | false => rw [hh] at h; cases h
      | true =>
      simp only [hh, cond_true] at h
      split at h
      case h_2 => cases h
      rename_i T' hp
      injection h with h
      subst h
      have hGget : ∀ x q, G.get x = some q → (st.H.get x = some q) ∨ (x ∈ U.flatMap (·.names) ∧ ∃ t, st.H.get x = some t ∧ t.o = q.o ∧ q.lock = true) := by
        intro x q hx
        rw [← hG] at hx
        exact lockAll_get _ _ x q (fun y t hy => ⟨t, hy, rfl, fun h => h, .inr trivial⟩) (dropAll_get _ _ x q hx)
      refine fin G G' s hi [] [] false _ T' he hh hp ?_ ⟨fun e => (by cases e), fun e => (by cases e)⟩ ?_
      · intro x q hx
        rcases hGget x q hx with h | ⟨_, t, h1, h2, h3⟩
        · exact ⟨q, h, rfl, fun h => h⟩
        · exact ⟨t, h1, h2, fun hl => by rw [h3] at hl; cases hl⟩
      · intro x q hx
        rw [takeOld_get] at hx
        by_cases hm : x ∈ U.flatMap (·.names) ∧ wB G.get st.nx hi x = false
        · rw [if_pos hm] at hx
          exact .inr ⟨hm.2, hx⟩
        · rw [if_neg hm] at hx
          cases hw : wB G.get st.nx hi x with
          | true => exact .inl ⟨rfl, hx⟩
          | false =>
            have hnm : x ∉ U.flatMap (·.names) := fun h => hm ⟨h, hw⟩
            obtain ⟨b1, b2⟩ := wB_false hw
            rcases (step_ok hP hcall he).2.1 x q hx with ⟨g1, g2, _⟩ | ⟨t, g1, g2, g3⟩
            · exact absurd ⟨g1, g2⟩ b1
            · have hl := b2 t g1
              have := g3 hl
              subst this
              rcases hGget x t g1 with h | ⟨h, _⟩
              · exact .inr ⟨rfl, h⟩
              · exact absurd h hnm
    | false =>
      simp only [hcall', cond_false] at h
      generalize hfp : fpOf o (sig st.T.get) st.H = fp at h
      generalize hG : partOf st.H fp .nil = G at h
      split at h
      case h_2 => cases h
      rename_i s G' hi he
      cases hh : heapOK (early (B.getD i 0) st.recs) G st.nx hi with
      | false => rw [hh] at h; cases h
      | true =>
      simp only [hh, cond_true] at h
      split at h
      case h_2 => cases h
      rename_i T' hp
      injection h with h
      subst h
      have hGget : ∀ x q, G.get x = some q → x ∈ fp.map (·.1) ∧ ∃ t, st.H.get x = some t ∧ t.o = q.o ∧ (q.lock = false → t.lock = false) := by
        intro x q hx
        rw [← hG] at hx
        rcases partOf_get _ _ x q hx with h | h
        · cases h
        · exact h
      have hnames : ∀ x, ((∃ q, G.get x = some q) ∨ (st.nx ≤ x ∧ x < hi)) → x ∈ fp.map (·.1) ++ List.range' st.nx (hi - st.nx) := by
        intro x hx
        rcases hx with ⟨q, hq⟩ | ⟨h1, h2⟩
        · exact List.mem_append.2 (.inl (hGget x q hq).1)
        · exact List.mem_append.2 (.inr (List.mem_range'_1.2 ⟨h1, by omega⟩))
      have hwn : ∀ x, wB G.get st.nx hi x = true → x ∈ fp.map (·.1) ++ List.range' st.nx (hi - st.nx) := by
        intro x hx
        rcases wB_true hx with h | ⟨q, hq, _⟩
        · exact hnames x (.inr h)
        · exact hnames x (.inl ⟨q, hq⟩)
      refine fin G G' s hi _ _ true _ T' he hh hp (fun x q hx => (hGget x q hx).2) ⟨fun _ x hx => List.mem_filter.2 ⟨hwn x hx, hx⟩, fun _ x hx => hnames x hx⟩ ?_
      intro x q hx
      rw [takeNew_get] at hx
      cases hw : wB G.get st.nx hi x with
      | true =>
        rw [if_pos ⟨hwn x hw, hw⟩] at hx
        exact .inl ⟨rfl, hx⟩
      | false =>
        rw [if_neg (fun h => by rw [hw] at h; cases h.2)] at hx
        exact .inr ⟨rfl, hx⟩
theorem runD_ok (hP : NoCount P) (hcall : ∀ k args H nx out, call k args H nx = some out → CallOK P base k args H nx out) : ∀ (l : List Nat) (st st' : DSt), DInv P base ops nt B T0 H0 lo0 st → runD P call ops nt B l st = some st' → DInv P base ops nt B T0 H0 lo0 st'
  | [], st, st', hI, h => by simp [runD] at h; subst h; exact hI
  | i :: r, st, st', hI, h => by
    simp only [runD] at h
    split at h
    · rename_i st1 h1
      exact runD_ok hP hcall r st1 st' (stepD_ok hP hcall hI h1).1 h
    · cases h
theorem tAt_none (T0 : Nat → Option SV) : ∀ (E : List Rec) (D : Nat → Bool), (∀ i, D i = false) → tAt T0 E D = T0
  | [], D, h => rfl
  | e :: r, D, h => funext fun t => by
    simp only [tAt, h e.i]
    simp only [Bool.false_eq_true, false_and, if_false]
    rw [tAt_none T0 r D h]
theorem hAt_none (H0 : Nat → Option Slot) : ∀ (E : List Rec) (D : Nat → Bool), (∀ i, D i = false) → hAt H0 E D = H0
  | [], D, h => rfl
  | e :: r, D, h => funext fun t => by
    simp only [hAt, h e.i]
    simp only [Bool.false_eq_true, false_and, if_false]
    rw [hAt_none H0 r D h]
theorem Keep.less {H F G : Nat → Option Slot} {ρ ρ' : Env} {w w' : World} (h : Keep H ρ w F ρ' w') (hg : ∀ x s, G x = some s → F x = some s) : Keep H ρ w G ρ' w' :=
  ⟨h.os, h.tape, h.output, h.size, h.block, fun n s p h1 h2 h3 => h.own n s p (hg n s h1) h2 h3⟩
theorem draw_ok (hP : NoCount P) (hm : P.follows .mixedOrders = true) (hcall : ∀ k args H nx out, call k args H nx = some out → CallOK P base k args H nx out) {id : Nat} {st st' : St} (h : evDraw P call ops nt st = some st') :
    st.2.2 ≤ st'.2.2 ∧ DomOK st.2.1.get st'.2.1.get st.2.2 st'.2.2 ∧ ∀ (ρ : Env) (a : Act) (w : World) (Q : Exit → Act → World → Prop), TSat ρ st.1.get nt a → Sat base ρ st.2.1.get w → (∀ n, st.2.2 ≤ n → n < st'.2.2 → ρ n = none) →
      (∀ ρ' a' w', Ext ρ ρ' st.2.2 st'.2.2 → TSat ρ' st'.1.get nt a' → Sat base ρ' st'.2.1.get w' → Keep st.2.1.get ρ w st'.2.1.get ρ' w' → Q .normal a' w') → (Code.region id ops true).wp P Q a w := by
  obtain ⟨T, H, nx⟩ := st
  simp only [evDraw] at h
  generalize hB : befL ops.toList [] = B at h
  cases hc : chkB B ops.toList 0 with
  | false => rw [hc] at h; cases h
  | true =>
  simp only [hc, cond_true] at h
  split at h
  case h_2 => cases h
  rename_i d hd
  cases hall : ((List.range ops.size).all (fun i => d.recs.any fun r => r.i == i)) with
  | false => rw [hall] at h; cases h
  | true =>
  simp only [hall, cond_true] at h
  injection h with h
  subst h
  have hI0 : DInv P base ops nt B T.get H.get nx ⟨T, H, nx, []⟩ := ⟨trivial, fun r hr => (by cases hr), fun t s h => h, fun x s h => h, fun r hr => (by cases hr), DomOK.refl _ _ _, Nat.le_refl _⟩
  have hI := runD_ok hP hcall _ _ _ hI0 hd
  refine ⟨hI.le, hI.dom, fun ρ a w Q hta hs hf hK => ?_⟩
  have hspec : ∀ (j : Nat) (o : Oper), ops[j]? = some o → B.getD j 0 = maskOf B o ∧ ∀ e ∈ o.after, Region.binds .any e = true → e.on < j := by
    intro j o ho
    have := chkB_spec hc j o (by simpa using ho)
    simpa using this
  refine wp_region_any hm ?_
  have hfalse : ∀ i, (Array.replicate ops.size false).getD i false = false := by
    intro i
    by_cases hi : i < ops.size <;> simp [Array.getD, hi]
  refine any_order (E := d.recs) (ρ0 := ρ) (w0 := w) (lo := nx) (hi := d.nx) hI.good hI.le (fun e he => ⟨(hI.bound e he).1, (hI.bound e he).2⟩) ?_ ?_ ?_ ?_ ops.size _ ρ a _ (by simp) ?_ ?_ ?_
  · intro i hi
    have := List.all_eq_true.1 hall i (List.mem_range.2 hi)
    obtain ⟨e, he, hei⟩ := List.any_eq_true.1 this
    exact ⟨e, he, by simpa using hei⟩
  · intro i o ho k hk
    rw [(hspec i o ho).1] at hk
    rcases foldl_mask o.after.toList 0 k hk with h | ⟨e, he, h1, h2⟩
    · simp [hasBit] at h
    · exact ⟨e, by simpa using he, h1, h2⟩
  · intro i o ho e he hb
    exact (hspec i o ho).2 e he hb
  · intro ρ' a' w' hinv
    refine hK ρ' a' w' hinv.ext ?_ ?_ ?_
    · exact ⟨hinv.tsat.size, hinv.tsat.defers, fun t s e => hinv.tsat.held t s (hI.temps t s e)⟩
    · exact hinv.sat.fewer fun x s e => ⟨s, hI.heap x s e, rfl⟩
    · exact hinv.keep.less hI.heap
  · refine Nat.le_trans (List.length_filter_le _ _) (by simp)
  · intro i hi
    have hi' : (Array.replicate ops.size false).getD i false = true := hi
    rw [hfalse i] at hi'
    cases hi'
  · have hT := tAt_none T.get d.recs (fun i => (Array.replicate ops.size false).getD i false) hfalse
    have hH := hAt_none H.get d.recs (fun i => (Array.replicate ops.size false).getD i false) hfalse
    refine ⟨?_, ?_, ?_, Ext.refl _ _ _, ?_⟩
    · rw [hT]; exact hta
    · rw [hH]; exact ⟨hs.room, hs.held, hs.apart⟩
    · rw [hH]; exact ⟨rfl, rfl, rfl, Nat.le_refl _, fun _ _ _ => rfl, fun n s p h1 h2 h3 => .inr ⟨n, s, p, h1, h2, h3, rfl⟩⟩
    · intro e he _ n h1 h2
      have := hI.bound e he
      exact hf n (by simp only; omega) (by simp only; omega)
end
end Ev
end Go.Proofs.YtekhboekiehdhaaGreatDoor
