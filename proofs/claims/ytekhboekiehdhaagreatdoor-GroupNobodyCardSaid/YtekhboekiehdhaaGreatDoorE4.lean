/- More operations over names: literals of structs and slices, slicing, lengths, and append. -/
import Derived.Test.YtekhboekiehdhaaGreatDoorE3
set_option linter.unusedVariables false
set_option linter.unusedSimpArgs false
namespace Go.Proofs.YtekhboekiehdhaaGreatDoor
namespace Ev
open Go.RowKit

def sfill (place : Nat → Option (Nat × Nat)) (cells : List SV) : List (Nat × SV) → Option (List SV)
  | [] => some cells
  | (i, s) :: rest =>
    match place i with
    | none => none
    | some (off, size) =>
      bif s.cells.all SV.one && Nat.beq s.cells.length size && Nat.ble (off + s.cells.length) cells.length then
        sfill place (cells.take off ++ s.cells ++ cells.drop (off + s.cells.length)) rest
      else none
theorem foldl_cells : ∀ (xs : List Value) (k off : Nat) (cs : Array Value), off + k + xs.length ≤ cs.size →
    ((xs.zipIdx k).foldl (fun (cs : Array Value) (x : Value × Nat) => cs.setIfInBounds (off + x.2) x.1) cs) = (cs.toList.take (off + k) ++ xs ++ cs.toList.drop (off + k + xs.length)).toArray
  | [], k, off, cs, h => by simp
  | x :: r, k, off, cs, h => by
    simp only [List.zipIdx_cons, List.foldl_cons]
    rw [foldl_cells r (k + 1) off (cs.setIfInBounds (off + k) x) (by simp at h ⊢; omega)]
    have e := list_seg_step cs.toList (off + k) x r (by simp at h ⊢; omega)
    congr 1
    simpa [Array.toList_setIfInBounds, Nat.add_assoc] using e
theorem sfill_fill {ρ : Env} {place : Nat → Option (Nat × Nat)} : ∀ {parts : List (Nat × SV)} {cells out : List SV} {vs : List Value} {vparts : List (Nat × Value)}, sfill place cells parts = some out → denL ρ cells = some vs →
    vparts.map (·.1) = parts.map (·.1) → denL ρ (parts.map (·.2)) = some (vparts.map (·.2)) → ∃ us, Instr.fill place vs.toArray vparts = some us.toArray ∧ denL ρ out = some us
  | [], cells, out, vs, vparts, h, hd, h1, h2 => by
    simp [sfill] at h
    subst h
    have : vparts = [] := by simpa using h1
    subst this
    exact ⟨vs, rfl, hd⟩
  | (i, s) :: rest, cells, out, vs, vparts, h, hd, h1, h2 => by
    cases vparts with
    | nil => simp at h1
    | cons vp vr =>
      obtain ⟨j, v⟩ := vp
      simp only [List.map_cons, List.cons.injEq] at h1
      obtain ⟨rfl, h1⟩ := h1
      simp only [List.map_cons] at h2
      obtain ⟨v', us', hv, hr, he⟩ := denL_cons.1 h2
      injection he with he1 he2
      subst he1
      subst he2
      simp only [sfill] at h
      cases hp : place j with
      | none => simp [hp] at h
      | some q =>
        obtain ⟨off, size⟩ := q
        simp only [hp] at h
        cases hc : (s.cells.all SV.one && Nat.beq s.cells.length size && Nat.ble (off + s.cells.length) cells.length) with
        | false => simp [hc] at h
        | true =>
          simp only [hc, cond_true] at h
          simp only [Bool.and_eq_true] at hc
          obtain ⟨⟨hc1, hc2⟩, hc3⟩ := hc
          have hl : s.cells.length = size := Nat.eq_of_beq_eq_true hc2
          have hle := ble_true hc3
          obtain ⟨hd1, hd2⟩ := den_cells hc1 hv
          have hvl := denL_length hd1
          have hlen := denL_length hd
          simp only [Array.length_toList] at hvl
          obtain ⟨us, h3, h4⟩ := sfill_fill h (denL_append (denL_append (denL_take off hd) hd1) (denL_drop (off + s.cells.length) hd)) h1 hr
          refine ⟨us, ?_, h4⟩
          have hsz : ¬ (v.cells.size ≠ size || off + v.cells.size > vs.toArray.size) := by
            simp
            omega
          simp only [Instr.fill, hp]
          rw [if_neg (by simpa using hsz)]
          have hf : (v.cells.zipIdx.foldl (fun cs (x : Value × Nat) => match x with | (c, j) => cs.setIfInBounds (off + j) c) vs.toArray) = (vs.take off ++ v.cells.toList ++ vs.drop (off + s.cells.length)).toArray := by
            rw [← Array.foldl_toList, Array.toList_zipIdx]
            have := foldl_cells v.cells.toList 0 off vs.toArray (by simp; omega)
            simp only [Nat.add_zero, Array.length_toList, hvl] at this
            exact this
          rw [hf]
          exact h3

section
variable {P : Program} {base : Nat} {o : Oper} {σ : Sig} {H : Heap} {nx : Nat} {out : Out}

def sigP (σ : Sig) : List (Nat × Operand) → Option (List (Nat × SV))
  | [] => some []
  | (i, x) :: r => (σ x).bind fun s => (sigP σ r).map ((i, s) :: ·)
theorem sigP_den {ρ : Env} {a : Act} : ∀ {l : List (Nat × Operand)} {ps : List (Nat × SV)}, sigP σ l = some ps → (∀ x ∈ l.map (·.2), ∀ s, σ x = some s → den ρ s = some (a.eval x)) →
    (l.map fun q => (q.1, a.eval q.2)).map (·.1) = ps.map (·.1) ∧ denL ρ (ps.map (·.2)) = some ((l.map fun q => (q.1, a.eval q.2)).map (·.2))
  | [], ps, h, _ => by simp [sigP] at h; subst h; exact ⟨rfl, rfl⟩
  | (i, x) :: r, ps, h, k => by
    cases hx : σ x with
    | none => simp [sigP, hx] at h
    | some s =>
      cases hr : sigP σ r with
      | none => simp [sigP, hx, hr] at h
      | some rs =>
        simp [sigP, hx, hr] at h
        subst h
        obtain ⟨h1, h2⟩ := sigP_den hr (fun y hy => k y (by simp only [List.map_cons, List.mem_cons]; exact .inr hy))
        refine ⟨by simp only [List.map_cons, h1], ?_⟩
        exact denL_cons.2 ⟨_, _, k x (by simp) s hx, h2, rfl⟩

def placesOf (P : Program) : List Field → Option (List (Nat × Nat))
  | [] => some []
  | f :: r => match szOf P f.type with
    | some n => (placesOf P r).map ((f.offset, n) :: ·)
    | none => none
theorem places_eq (P : Program) : ∀ (fs : List Field), fs.mapM (fun f => (P.info? f.type).map fun i => (f.offset, i.size)) = placesOf P fs
  | [] => rfl
  | f :: r => by
    simp only [List.mapM_cons, placesOf, szOf, places_eq P r]
    cases P.info? f.type with
    | none => rfl
    | some i =>
      cases placesOf P r <;> rfl
def evBuild (P : Program) (t : TypeId) (parts : List (Nat × SV)) : Option SV :=
  match zeroOf P t, P.underlying t with
  | some z, some (.struct fields) => match placesOf P fields.toList with
    | some places => (sfill (fun i => places[i]?) (z.cells.toList.map .lit) parts).map .agg
    | none => none
  | some z, some (.array _ e) => match szOf P e with
    | some k => (sfill (fun i => some (i * k, k)) (z.cells.toList.map .lit) parts).map .agg
    | none => none
  | _, _ => none
theorem operands_build {t : TypeId} {parts : Array (Nat × Operand)} (ho : o.op = .build t parts) : ∀ x ∈ parts.toList.map (·.2), x ∈ o.op.operands := by
  intro x hx
  simpa [ho, Op.operands] using hx
theorem ok_build {t : TypeId} {parts : Array (Nat × Operand)} {ps : List (Nat × SV)} {q : SV} (ho : o.op = .build t parts) (hp : sigP σ parts.toList = some ps) (h : evBuild P t ps = some q) : OpOK P base o σ H nx (q, H, nx) := by
  refine ok_still fun ρ a w hσ hs => ?_
  obtain ⟨h1, h2⟩ := sigP_den (ρ := ρ) (a := a) hp (fun x hx => hσ x (operands_build ho x hx))
  have key : ∃ us : List Value, P.built t (parts.map fun (i, x) => (i, a.eval x)).toList = some us.toArray ∧ den ρ q = some (.agg us.toArray) := by
    unfold evBuild at h
    split at h
    · rename_i z fields hz hu
      split at h
      · rename_i places hpl
        cases hf : sfill (fun i => places[i]?) (z.cells.toList.map .lit) ps with
        | none => simp [hf] at h
        | some outc =>
          simp [hf] at h
          subst h
          obtain ⟨us, h3, h4⟩ := sfill_fill hf (denL_lits _) h1 h2
          refine ⟨us, ?_, by simp [den, h4]⟩
          unfold zeroOf at hz
          cases hi : P.info? t with
          | none => simp [hi] at hz
          | some it =>
            simp [hi] at hz
            simp only [Program.built, hi, hu, hz, places_eq, hpl]
            simpa using h3
      · cases h
    · rename_i z n e hz hu
      split at h
      · rename_i k hk
        cases hf : sfill (fun i => some (i * k, k)) (z.cells.toList.map .lit) ps with
        | none => simp [hf] at h
        | some outc =>
          simp [hf] at h
          subst h
          obtain ⟨us, h3, h4⟩ := sfill_fill hf (denL_lits _) h1 h2
          refine ⟨us, ?_, by simp [den, h4]⟩
          unfold zeroOf at hz
          unfold szOf at hk
          cases hi : P.info? t with
          | none => simp [hi] at hz
          | some it =>
            simp [hi] at hz
            cases hie : P.info? e with
            | none => simp [hie] at hk
            | some ie =>
              simp [hie] at hk
              simp only [Program.built, hi, hu, hz, hie, hk]
              simpa using h3
      · cases h
    · cases h
  obtain ⟨us, h3, h4⟩ := key
  refine ⟨.agg us.toArray, ?_, h4⟩
  simp [execOp, ho, run_build w t _ _ h3]

def zeroRow (z : List Value) : Nat → List SV
  | 0 => []
  | n + 1 => z.map .lit ++ zeroRow z n
def zeroVals (z : List Value) : Nat → List Value
  | 0 => []
  | n + 1 => z ++ zeroVals z n
theorem zeroRow_den (ρ : Env) (z : List Value) : ∀ n, denL ρ (zeroRow z n) = some (zeroVals z n)
  | 0 => rfl
  | n + 1 => denL_append (denL_lits z) (zeroRow_den ρ z n)
theorem zeroVals_length (z : List Value) : ∀ n, (zeroVals z n).length = n * z.length
  | 0 => by simp [zeroVals]
  | n + 1 => by simp [zeroVals, zeroVals_length z n, Nat.add_mul, Nat.add_comm]
theorem zeroVals_get (z : List Value) (hz : 0 < z.length) : ∀ n i, i < n * z.length → (zeroVals z n)[i]? = z[i % z.length]?
  | 0, i, h => by simp at h
  | n + 1, i, h => by
    simp only [zeroVals]
    by_cases hi : i < z.length
    · rw [List.getElem?_append_left hi, Nat.mod_eq_of_lt hi]
    · rw [List.getElem?_append_right (by omega), zeroVals_get z hz n (i - z.length) (by simp [Nat.add_mul] at h; omega)]
      congr 1
      rw [← Nat.mod_eq_sub_mod (by omega)]
theorem zeros_eq (z : Array Value) (n k : Nat) (hk : z.size = k) (h0 : 0 < k) : (Array.range (n * k)).map (fun i => z[i % z.size]!) = (zeroVals z.toList n).toArray := by
  apply Array.ext'
  apply List.ext_getElem?
  intro i
  have hzl : z.toList.length = k := by simp [hk]
  by_cases hi : i < n * k
  · have hm : i % k < k := Nat.mod_lt _ h0
    have h1 := zeroVals_get z.toList (by omega) n i (by rw [hzl]; exact hi)
    simp only [hzl] at h1
    rw [show (zeroVals z.toList n).toArray.toList = zeroVals z.toList n from rfl, h1]
    simp [hi, hk, hm]
  · have h1 := zeroVals_length z.toList n
    rw [hzl] at h1
    simp [hi]
    omega
def evBuildSlice (P : Program) (t : TypeId) (len : Nat) (parts : List (Nat × SV)) (H : Heap) (nx : Nat) : Option Out :=
  match P.underlying t with
  | some (.slice e) => match szOf P e, zeroOf P e with
    | some k, some z => bif Nat.ble (len * k) 16777216 && !Nat.beq k 0 && Nat.beq z.cells.size k then
        (sfill (fun i => some (i * k, k)) (zeroRow z.cells.toList len) parts).map fun cs => (.sl nx 0 len (some len) k, H.put nx (some ⟨false, .row cs e false⟩), nx + 1)
      else none
    | _, _ => none
  | _ => none
theorem operands_buildSlice {t : TypeId} {len : Nat} {parts : Array (Nat × Operand)} (ho : o.op = .buildSlice t len parts) : ∀ x ∈ parts.toList.map (·.2), x ∈ o.op.operands := by
  intro x hx
  simpa [ho, Op.operands] using hx
theorem beq_ne {k n : Nat} (h : Nat.beq k n = false) : k ≠ n := fun e => by rw [e] at h; simp at h
theorem ok_buildSlice {t : TypeId} {len : Nat} {parts : Array (Nat × Operand)} {ps : List (Nat × SV)} (ho : o.op = .buildSlice t len parts) (hp : sigP σ parts.toList = some ps) (h : evBuildSlice P t len ps H nx = some out) : OpOK P base o σ H nx out := by
  unfold evBuildSlice at h
  split at h
  · rename_i e hu
    split at h
    · rename_i k z hk hz
      cases hc : (Nat.ble (len * k) 16777216 && !Nat.beq k 0 && Nat.beq z.cells.size k) with
      | false => simp [hc] at h
      | true =>
        simp only [hc, cond_true] at h
        simp only [Bool.and_eq_true, Bool.not_eq_true'] at hc
        obtain ⟨⟨hc1, hc2⟩, hc3⟩ := hc
        have hle := ble_true hc1
        have hk0 := beq_ne hc2
        have hzk : z.cells.size = k := Nat.eq_of_beq_eq_true hc3
        cases hf : sfill (fun i => some (i * k, k)) (zeroRow z.cells.toList len) ps with
        | none => simp [hf] at h
        | some cs =>
          simp [hf] at h
          subst h
          refine ⟨by simp, dom_new _ _ _, fun ρ a w hσ hs hfr => ?_⟩
          obtain ⟨h1, h2⟩ := sigP_den (ρ := ρ) (a := a) hp (fun x hx => hσ x (operands_buildSlice ho x hx))
          obtain ⟨us, h3, h4⟩ := sfill_fill hf (zeroRow_den ρ _ len) h1 h2
          obtain ⟨ρ', g1, g2, g3, g4⟩ := sat_new (nx := nx) (rest := []) e false hs (hfr nx (Nat.le_refl _) (by simp)) h4 (fun _ => rfl)
          refine ⟨ρ', .slice (some ⟨w.heap.size, 0, none⟩) len len, _, .inl ?_, g1, by simp only [den, g2, Option.bind_some], g3, g4⟩
          have hn : ¬ (16777216 < len * k) := by omega
          have hzz : (if len * k = 0 then #[] else z.cells) = z.cells ∨ len = 0 := by
            by_cases h0 : len = 0
            · exact .inr h0
            · exact .inl (if_neg (fun hh => by rcases Nat.mul_eq_zero.1 hh with hh | hh <;> contradiction))
          have hfill : Instr.fill (fun i => some (i * k, k)) ((Array.range (len * k)).map ((if len * k = 0 then #[] else z.cells)[· % (if len * k = 0 then #[] else z.cells).size]!)) (parts.map fun (i, x) => (i, a.eval x)).toList = some us.toArray := by
            have hparts : (parts.map fun (i, x) => (i, a.eval x)).toList = parts.toList.map fun q => (q.1, a.eval q.2) := by simp
            rw [hparts]
            rcases hzz with hzz | h0
            · rw [hzz, zeros_eq z.cells len k hzk (by omega)]
              exact h3
            · subst h0
              rw [Nat.zero_mul]
              have hz0 : ∀ f : Nat → Value, Array.map f (Array.range 0) = (zeroVals z.cells.toList 0).toArray := fun f => by simp [zeroVals]
              rw [hz0]
              exact h3
          have hrun : (Instr.buildSlice t len (parts.map fun (i, x) => (i, a.eval x))).run P w = .ok (.slice (some ⟨w.heap.size, 0, none⟩) len len) (w.alloc (.cells us.toArray e)) := by
            by_cases h0 : len * k = 0
            · simp only [h0, if_true] at hfill
              simp [Instr.buildSlice, run_underlying hu, run_size hk, h0, newRow]
              simp at hfill
              rw [hfill]
              rfl
            · simp only [h0, if_false] at hfill
              simp [Instr.buildSlice, run_underlying hu, run_size hk, hn, h0, run_zero hz, newRow]
              simp at hfill
              rw [hfill]
              rfl
          simp [execOp, ho, hrun]
    · cases h
  · cases h
end
end Ev
end Go.Proofs.YtekhboekiehdhaaGreatDoor
