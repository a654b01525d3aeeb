/- Code and calls over names: what the evaluator answers, the machine does, in every world. -/
import Derived.Test.YtnjonjjplcnmiaaE9
set_option linter.unusedVariables false
set_option linter.unusedSimpArgs false
namespace Go.Proofs.Ytnjonjjplcnmiaa
namespace Ev
open Go.RowKit

/-- How a piece of code is left. -/
inductive SExit where
  | normal
  | leave (id : Nat)
  | ret
def SExit.den : SExit → Exit
  | .normal => .normal
  | .leave id => .exit id
  | .ret => .ret
def evCode (P : Program) (call : Caller) (nt : Nat) : Nat → Code → St → Option (SExit × St)
  | 0, _, _ => none
  | f + 1, c, st => match c with
    | .skip => some (.normal, st)
    | .label _ => some (.normal, st)
    | .ret => some (.ret, st)
    | .exit id => some (.leave id, st)
    | .seq a b => match evCode P call nt f a st with
      | some (.normal, st') => evCode P call nt f b st'
      | some (.leave id, st') => some (.leave id, st')
      | some (.ret, st') => some (.ret, st')
      | none => none
    | .cond c a b => match sig st.1.get c with
      | some (.lit (.bool true)) => evCode P call nt f a st
      | some (.lit (.bool false)) => evCode P call nt f b st
      | _ => none
    | .block id b => match evCode P call nt f b st with
      | some (.normal, st') => some (.normal, st')
      | some (.leave id', st') => bif Nat.beq id' id then some (.normal, st') else some (.leave id', st')
      | some (.ret, st') => some (.ret, st')
      | none => none
    | .loop b => match evCode P call nt f b st with
      | some (.normal, st') => evCode P call nt f (.loop b) st'
      | some (.leave id, st') => some (.leave id, st')
      | some (.ret, st') => some (.ret, st')
      | none => none
    | .region _ ops draw => match (bif draw then evDraw P call ops nt st else evOps P call ops nt ops.toList st) with
      | some st' => some (.normal, st')
      | none => none
    | _ => none

section
variable {P : Program} {base : Nat} {call : Caller} {nt : Nat}
def CodeOK (P : Program) (base nt : Nat) (W : (Exit → Act → World → Prop) → Act → World → Prop) (st : St) (ex : SExit) (st' : St) : Prop :=
  st.2.2 ≤ st'.2.2 ∧ DomOK st.2.1.get st'.2.1.get st.2.2 st'.2.2 ∧ ∀ (ρ : Env) (a : Act) (w : World) (Q : Exit → Act → World → Prop), TSat ρ st.1.get nt a → Sat base ρ st.2.1.get w → (∀ n, st.2.2 ≤ n → n < st'.2.2 → ρ n = none) →
    (∀ ρ' a' w', Ext ρ ρ' st.2.2 st'.2.2 → TSat ρ' st'.1.get nt a' → Sat base ρ' st'.2.1.get w' → Keep st.2.1.get ρ w st'.2.1.get ρ' w' → Q ex.den a' w') → W Q a w
/-- One behind the other. -/
theorem CodeOK.then' {W1 W2 W : (Exit → Act → World → Prop) → Act → World → Prop} {st st1 st2 : St} {ex : SExit} (h1 : CodeOK P base nt W1 st .normal st1) (h2 : CodeOK P base nt W2 st1 ex st2) (hW : ∀ Q a w, W1 (Exit.then (W2 Q) Q) a w → W Q a w) : CodeOK P base nt W st ex st2 := by
  obtain ⟨a1, b1, c1⟩ := h1
  obtain ⟨a2, b2, c2⟩ := h2
  refine ⟨Nat.le_trans a1 a2, b1.trans b2 a1 a2, fun ρ a w Q hta hs hf hK => hW Q a w ?_⟩
  refine c1 ρ a w _ hta hs (fun n h1 h2 => hf n h1 (by omega)) fun ρ' a' w' g1 g2 g3 g4 => ?_
  show W2 Q a' w'
  refine c2 ρ' a' w' Q g2 g3 (fun n h1 h2 => ?_) fun ρ'' a'' w'' k1 k2 k3 k4 => ?_
  · rw [g1.off n (.inr h1)]
    exact hf n (by omega) h2
  · exact hK ρ'' a'' w'' (g1.trans k1 a1 a2) k2 k3 (g4.trans k4)
theorem CodeOK.other {W1 W : (Exit → Act → World → Prop) → Act → World → Prop} {st st1 : St} {ex : SExit} (h1 : CodeOK P base nt W1 st ex st1) (N : (Exit → Act → World → Prop) → Exit → Act → World → Prop) (hN : ∀ Q a w, Q ex.den a w → N Q ex.den a w) (hW : ∀ Q a w, W1 (N Q) a w → W Q a w) : CodeOK P base nt W st ex st1 := by
  obtain ⟨a1, b1, c1⟩ := h1
  exact ⟨a1, b1, fun ρ a w Q hta hs hf hK => hW Q a w (c1 ρ a w _ hta hs hf fun ρ' a' w' g1 g2 g3 g4 => hN Q a' w' (hK ρ' a' w' g1 g2 g3 g4))⟩
theorem CodeOK.turn {W1 W : (Exit → Act → World → Prop) → Act → World → Prop} {st st1 : St} {ex ex' : SExit} (h1 : CodeOK P base nt W1 st ex st1) (N : (Exit → Act → World → Prop) → Exit → Act → World → Prop) (hN : ∀ Q a w, Q ex'.den a w → N Q ex.den a w) (hW : ∀ Q a w, W1 (N Q) a w → W Q a w) : CodeOK P base nt W st ex' st1 := by
  obtain ⟨a1, b1, c1⟩ := h1
  exact ⟨a1, b1, fun ρ a w Q hta hs hf hK => hW Q a w (c1 ρ a w _ hta hs hf fun ρ' a' w' g1 g2 g3 g4 => hN Q a' w' (hK ρ' a' w' g1 g2 g3 g4))⟩
theorem CodeOK.same {W : (Exit → Act → World → Prop) → Act → World → Prop} {st : St} {ex : SExit} (hW : ∀ Q a w, Q ex.den a w → W Q a w) : CodeOK P base nt W st ex st :=
  ⟨Nat.le_refl _, DomOK.refl _ _ _, fun ρ a w Q hta hs hf hK => hW Q a w (hK ρ a w (Ext.refl _ _ _) hta hs (Keep.refl _ _ _))⟩

/-- A loop at its round's head. -/
def LoopAt (P : Program) (c : Code) (Q : Exit → Act → World → Prop) (a : Act) (w : World) : Prop :=
  ∀ (b : Frame) (k : List Item) (cs : List Frame), ∃ e a' w', Q e a' w' ∧ Arrives P (lone (b.at a (.code c :: .inLoop c :: k)) cs w) b k cs e a' w'
theorem wp_of_loopAt {c : Code} {Q : Exit → Act → World → Prop} {a : Act} {w : World} (h : LoopAt P c Q a w) : (Code.loop c).wp P Q a w := by
  intro b k cs
  obtain ⟨e, a', w', hq, harr⟩ := h b k cs
  exact ⟨e, a', w', hq, .of_steps (.one step_loop) harr⟩
theorem loopAt_of_wp {c : Code} {Q : Exit → Act → World → Prop} {a : Act} {w : World} (h : c.wp P (Exit.then (LoopAt P c Q) Q) a w) : LoopAt P c Q a w := by
  intro b k cs
  obtain ⟨e, a₁, w₁, hq, harr⟩ := h b (.inLoop c :: k) cs
  cases e with
  | normal =>
    obtain ⟨e₂, a₂, w₂, hq₂, harr₂⟩ := hq b k cs
    exact ⟨e₂, a₂, w₂, hq₂, .of_steps (Steps.trans harr (.one step_inLoop)) harr₂⟩
  | exit id => exact ⟨_, a₁, w₁, hq, .pass (x := .inLoop c) rfl (fun _ _ => .inl (by simp)) harr⟩
  | goto l => exact ⟨_, a₁, w₁, hq, .pass (x := .inLoop c) rfl (fun _ _ => .inl (by simp)) harr⟩
  | ret => exact ⟨_, a₁, w₁, hq, .pass (x := .inLoop c) rfl (fun _ _ => .inl (by simp)) harr⟩
  | panic ch => exact ⟨_, a₁, w₁, hq, .pass (x := .inLoop c) rfl (fun _ _ => .inl (by simp)) harr⟩
  | outgrown => exact ⟨_, a₁, w₁, hq, .pass (x := .inLoop c) rfl (fun _ _ => .inl (by simp)) harr⟩
theorem code_ok (hP : NoCount P) (hm : P.follows .mixedOrders = true) (hcall : ∀ k args H nx out, call k args H nx = some out → CallOK P base k args H nx out) :
    ∀ (f : Nat) (c : Code) (st : St) (ex : SExit) (st' : St), evCode P call nt f c st = some (ex, st') → CodeOK P base nt (fun Q a w => c.wp P Q a w) st ex st' ∧ (∀ b, c = .loop b → CodeOK P base nt (fun Q a w => LoopAt P b Q a w) st ex st') := by
  intro f
  induction f with
  | zero => intro c st ex st' h; cases h
  | succ f ih =>
    intro c st ex st' h
    have nl : ∀ {W : (Exit → Act → World → Prop) → Act → World → Prop}, (∀ b, c ≠ .loop b) → (∀ b, c = .loop b → CodeOK P base nt (fun Q a w => LoopAt P b Q a w) st ex st') := fun hn b e => absurd e (hn b)
    simp only [evCode] at h
    split at h
    · injection h with h
      injection h with h1 h2
      subst h1
      subst h2
      exact ⟨CodeOK.same fun Q a w h => wp_skip h, fun b e => by cases e⟩
    · injection h with h
      injection h with h1 h2
      subst h1
      subst h2
      exact ⟨CodeOK.same fun Q a w h => wp_label h, fun b e => by cases e⟩
    · injection h with h
      injection h with h1 h2
      subst h1
      subst h2
      exact ⟨CodeOK.same fun Q a w h => wp_ret h, fun b e => by cases e⟩
    · injection h with h
      injection h with h1 h2
      subst h1
      subst h2
      exact ⟨CodeOK.same fun Q a w h => wp_exit h, fun b e => by cases e⟩
    · rename_i x y
      refine ⟨?_, fun b e => by cases e⟩
      split at h
      · rename_i st1 h1
        exact (ih _ _ _ _ h1).1.then' (ih _ _ _ _ h).1 fun Q a w h => wp_seq h
      · rename_i id st1 h1
        injection h with h
        injection h with g1 g2
        subst g1
        subst g2
        exact (ih _ _ _ _ h1).1.other (fun Q => Exit.then (y.wp P Q) Q) (fun Q a w h => h) fun Q a w h => wp_seq h
      · rename_i st1 h1
        injection h with h
        injection h with g1 g2
        subst g1
        subst g2
        exact (ih _ _ _ _ h1).1.other (fun Q => Exit.then (y.wp P Q) Q) (fun Q a w h => h) fun Q a w h => wp_seq h
      · cases h
    · rename_i q x y
      refine ⟨?_, fun b e => by cases e⟩
      split at h
      · rename_i hq
        obtain ⟨a1, b1, c1⟩ := (ih _ _ _ _ h).1
        refine ⟨a1, b1, fun ρ a w Q hta hs hf hK => ?_⟩
        have := hta.sig q _ hq
        simp [den] at this
        exact wp_cond_true this.symm (c1 ρ a w Q hta hs hf hK)
      · rename_i hq
        obtain ⟨a1, b1, c1⟩ := (ih _ _ _ _ h).1
        refine ⟨a1, b1, fun ρ a w Q hta hs hf hK => ?_⟩
        have := hta.sig q _ hq
        simp [den] at this
        exact wp_cond_false this.symm (c1 ρ a w Q hta hs hf hK)
      · cases h
    · rename_i id x
      refine ⟨?_, fun b e => by cases e⟩
      split at h
      · rename_i st1 h1
        injection h with h
        injection h with g1 g2
        subst g1
        subst g2
        exact (ih _ _ _ _ h1).1.other (fun Q => Exit.inBlock id Q) (fun Q a w h => h) fun Q a w h => wp_block h
      · rename_i id' st1 h1
        cases hb : Nat.beq id' id with
        | true =>
          simp only [hb, cond_true] at h
          have hid : id' = id := Nat.eq_of_beq_eq_true hb
          injection h with h
          injection h with g1 g2
          subst g1
          subst g2
          exact (ih _ _ _ _ h1).1.turn (fun Q => Exit.inBlock id Q) (fun Q a w h => by simp only [SExit.den, Exit.inBlock, hid, if_true] at h ⊢; exact h) fun Q a w h => wp_block h
        | false =>
          simp only [hb, cond_false] at h
          have hid : id' ≠ id := beq_ne hb
          injection h with h
          injection h with g1 g2
          subst g1
          subst g2
          exact (ih _ _ _ _ h1).1.turn (fun Q => Exit.inBlock id Q) (fun Q a w h => by simp only [SExit.den, Exit.inBlock, hid, if_false] at h ⊢; exact h) fun Q a w h => wp_block h
      · rename_i st1 h1
        injection h with h
        injection h with g1 g2
        subst g1
        subst g2
        exact (ih _ _ _ _ h1).1.other (fun Q => Exit.inBlock id Q) (fun Q a w h => h) fun Q a w h => wp_block h
      · cases h
    · rename_i x
      have key : CodeOK P base nt (fun Q a w => LoopAt P x Q a w) st ex st' := by
        split at h
        · rename_i st1 h1
          exact (ih _ _ _ _ h1).1.then' ((ih _ _ _ _ h).2 x rfl) fun Q a w h => loopAt_of_wp h
        · rename_i id st1 h1
          injection h with h
          injection h with g1 g2
          subst g1
          subst g2
          exact (ih _ _ _ _ h1).1.other (fun Q => Exit.then (LoopAt P x Q) Q) (fun Q a w h => h) fun Q a w h => loopAt_of_wp h
        · rename_i st1 h1
          injection h with h
          injection h with g1 g2
          subst g1
          subst g2
          exact (ih _ _ _ _ h1).1.other (fun Q => Exit.then (LoopAt P x Q) Q) (fun Q a w h => h) fun Q a w h => loopAt_of_wp h
        · cases h
      refine ⟨?_, fun b e => by injection e with e; subst e; exact key⟩
      obtain ⟨a1, b1, c1⟩ := key
      exact ⟨a1, b1, fun ρ a w Q hta hs hf hK => wp_of_loopAt (c1 ρ a w Q hta hs hf hK)⟩
    · rename_i id ops draw
      refine ⟨?_, fun b e => by cases e⟩
      split at h
      · rename_i st1 h1
        injection h with h
        injection h with g1 g2
        subst g1
        subst g2
        cases draw with
        | true =>
          simp only [cond_true] at h1
          obtain ⟨a1, b1, c1⟩ := draw_ok (base := base) (id := id) hP hm hcall h1
          exact ⟨a1, b1, fun ρ a w Q hta hs hf hK => c1 ρ a w Q hta hs hf hK⟩
        | false =>
          simp only [cond_false] at h1
          obtain ⟨a1, b1, c1⟩ := region_ok (base := base) (id := id) hP hcall h1
          exact ⟨a1, b1, fun ρ a w Q hta hs hf hK => c1 ρ a w Q hta hs hf hK⟩
      · cases h
    · cases h

/-- What a function hands back. -/
def resS (P : Program) (T : Nat → Option SV) (H : Heap) : List ResultVar → Option (List SV)
  | [] => some []
  | .tmp t :: r => match T t with
    | some s => (resS P T H r).map (s :: ·)
    | none => none
  | .cell t ty :: r => match T t with
    | some (.ptr n off) => match H.get n with
      | some ⟨_, .row cs _ _⟩ => match loadS P ty cs off with
        | some s => (resS P T H r).map (s :: ·)
        | none => none
      | _ => none
    | _ => none
def resM (tmps : Array Value) : ResultVar → Sem Value
  | .tmp t => pure (tmps.getD t undef)
  | .cell a t => do loadVar t (← asAddr (tmps.getD a undef))
theorem resS_ok {ρ : Env} {T : Nat → Option SV} {H : Heap} {a : Act} {w : World} (hta : TSat ρ T nt a) (hs : Sat base ρ H.get w) : ∀ {l : List ResultVar} {ss : List SV}, resS P T H l = some ss →
    ∃ vs : List Value, (l.mapM (resM a.tmps)).run P w = Result.ok vs w ∧ denL ρ ss = some vs
  | [], ss, h => by simp [resS] at h; subst h; exact ⟨[], rfl, rfl⟩
  | .tmp t :: r, ss, h => by
    simp only [resS] at h
    split at h
    · rename_i s hst
      cases hr : resS P T H r with
      | none => simp [hr] at h
      | some rs =>
        simp [hr] at h
        subst h
        obtain ⟨vs, h1, h2⟩ := resS_ok hta hs hr
        obtain ⟨v, g1, g2⟩ := hta.held t s hst
        refine ⟨v :: vs, ?_, denL_cons.2 ⟨v, vs, g2, h2, rfl⟩⟩
        have hv : a.tmps.getD t undef = v := by simp [Array.getD_eq_getD_getElem?, g1]
        rw [List.mapM_cons]
        simp only [resM, Sem.run_bind, hv, Sem.run_pure, Result.andThen_ok, h1]
    · cases h
  | .cell t ty :: r, ss, h => by
    simp only [resS] at h
    split at h
    · rename_i n off hst
      split at h
      · rename_i lk cs e slack hg
        split at h
        · rename_i s hl
          cases hr : resS P T H r with
          | none => simp [hr] at h
          | some rs =>
            simp [hr] at h
            subst h
            obtain ⟨vs, h1, h2⟩ := resS_ok hta hs hr
            obtain ⟨v, g1, g2⟩ := hta.held t _ hst
            obtain ⟨b, us, rest, k1, k2, k3, k4⟩ := hs.row hg
            simp [den, k1] at g2
            obtain ⟨u, l1, l2⟩ := run_loadVar hl k3 k2
            refine ⟨u :: vs, ?_, denL_cons.2 ⟨u, vs, l2, h2, rfl⟩⟩
            have hv : a.tmps.getD t undef = .pointer (some ⟨b, off, none⟩) := by simp [Array.getD_eq_getD_getElem?, g1, g2]
            rw [List.mapM_cons]
            simp only [resM, Sem.run_bind, hv, asAddr, Sem.run_pure, Result.andThen_ok, l1, h1]
        · cases h
      · cases h
    · cases h
def outS : List SV → SV
  | [s] => s
  | l => .tup l
theorem results_ok {ρ : Env} {T : Nat → Option SV} {H : Heap} {a : Act} {w : World} {fn : Func} (hta : TSat ρ T nt a) (hs : Sat base ρ H.get w) {ss : List SV} (h : resS P T H fn.results.toList = some ss) : ∃ v, (results fn a.tmps).run P w = .ok v w ∧ den ρ (outS ss) = some v := by
  obtain ⟨vs, h1, h2⟩ := resS_ok (P := P) hta hs h
  have hlen := denL_length h2
  have hres : results fn a.tmps = (fn.results.mapM (resM a.tmps) >>= fun vs => pure (if h : vs.size = 1 then vs[0] else .tuple vs)) := by
    unfold results resM
    rfl
  have hm : (fn.results.mapM (resM a.tmps)).run P w = .ok vs.toArray w := by
    rw [Array.mapM_eq_mapM_toList, Sem.run_map, h1]
    rfl
  have hrun : (results fn a.tmps).run P w = .ok (if h : vs.toArray.size = 1 then vs.toArray[0] else .tuple vs.toArray) w := by
    rw [hres, Sem.run_bind, hm]
    rfl
  refine ⟨_, hrun, ?_⟩
  match ss, vs, h2 with
  | [], vs, h2 =>
    simp [denL] at h2
    subst h2
    simp [outS, den, denL]
  | [s], vs, h2 =>
    obtain ⟨v, us, g1, g2, rfl⟩ := denL_cons.1 h2
    simp [denL] at g2
    subst g2
    simp [outS, g1]
  | s :: t :: r, vs, h2 =>
    obtain ⟨v, us, g1, g2, rfl⟩ := denL_cons.1 h2
    obtain ⟨u, xs, k1, k2, rfl⟩ := denL_cons.1 g2
    simp only [outS, den, h2, Option.map_some]
    rw [dif_neg (by simp)]
def tempsOf : List SV → Nat → PT SV → PT SV
  | [], _, T => T
  | s :: r, i, T => tempsOf r (i + 1) (T.put i (some s))
theorem tempsOf_get : ∀ (l : List SV) (i : Nat) (T : PT SV) (t : Nat) (s : SV), (tempsOf l i T).get t = some s → (i ≤ t ∧ l[t - i]? = some s) ∨ T.get t = some s
  | [], i, T, t, s, h => .inr h
  | q :: r, i, T, t, s, h => by
    rcases tempsOf_get r (i + 1) _ t s h with ⟨h1, h2⟩ | h
    · refine .inl ⟨by omega, ?_⟩
      rw [show t - i = (t - (i + 1)) + 1 by omega]
      simpa using h2
    · rw [PT.get_put] at h
      split at h
      · rename_i e
        injection h with h
        subst h
        subst e
        exact .inl ⟨Nat.le_refl _, by simp⟩
      · exact .inr h
def evCall (P : Program) (cf : Nat) : Nat → Caller
  | 0, _, _, _, _ => none
  | d + 1, k, args, H, nx => match P.funcs[k]? with
    | some fn => match fn.body with
      | some c => match evCode P (evCall P cf d) (max fn.ntmps args.length) cf c (tempsOf args 0 .nil, H, nx) with
        | some (.normal, st) => match resS P st.1.get st.2.1 fn.results.toList with
          | some ss => some (outS ss, st.2.1, st.2.2)
          | none => none
        | some (.ret, st) => match resS P st.1.get st.2.1 fn.results.toList with
          | some ss => some (outS ss, st.2.1, st.2.2)
          | none => none
        | _ => none
      | none => none
    | none => none
theorem call_ok (hP : NoCount P) (hm : P.follows .mixedOrders = true) (cf : Nat) : ∀ (d : Nat) (k : FuncId) (args : List SV) (H : Heap) (nx : Nat) (out : Out), evCall P cf d k args H nx = some out → CallOK P base k args H nx out := by
  intro d
  induction d with
  | zero => intro k args H nx out h; cases h
  | succ d ih =>
    intro k args H nx out h
    simp only [evCall] at h
    split at h
    case h_2 => cases h
    rename_i fn hfn
    split at h
    case h_2 => cases h
    rename_i c hc
    have key : ∀ (ex : SExit) (st : St) (ss : List SV), evCode P (evCall P cf d) (max fn.ntmps args.length) cf c (tempsOf args 0 .nil, H, nx) = some (ex, st) → (ex = .normal ∨ ex = .ret) → resS P st.1.get st.2.1 fn.results.toList = some ss → CallOK P base k args H nx (outS ss, st.2.1, st.2.2) := by
      intro ex st ss he hex hr
      obtain ⟨a1, b1, c1⟩ := (code_ok (base := base) hP hm (fun k args H nx out h => ih k args H nx out h) cf c _ ex st he).1
      refine ⟨a1, b1, fun ρ vals w hd hs hf => calls_of_wp hfn hc ?_⟩
      have hlen := denL_length hd
      refine c1 ρ _ w _ ⟨?_, rfl, ?_⟩ hs hf fun ρ' a' w' g1 g2 g3 g4 => ?_
      · simp; omega
      · intro t s ht
        rcases tempsOf_get args 0 .nil t s ht with ⟨h1, h2⟩ | h
        · simp only [Nat.sub_zero] at h2
          obtain ⟨v, k1, k2⟩ := denL_get hd h2
          have hlt : t < vals.length := (List.getElem?_eq_some_iff.1 k1).1
          exact ⟨v, by rw [Array.getElem?_append_left (by simpa using hlt)]; simpa using k1, k2⟩
        · cases h
      · obtain ⟨v, k1, k2⟩ := results_ok (P := P) g2 g3 hr
        rcases hex with rfl | rfl
        · exact ⟨g2.defers, v, k1, ρ', v, rfl, g1, k2, g3, g4⟩
        · exact ⟨g2.defers, v, k1, ρ', v, rfl, g1, k2, g3, g4⟩
    split at h
    · rename_i st he
      split at h
      · rename_i ss hr
        injection h with h
        subst h
        exact key _ st ss he (.inl rfl) hr
      · cases h
    · rename_i st he
      split at h
      · rename_i ss hr
        injection h with h
        subst h
        exact key _ st ss he (.inr rfl) hr
      · cases h
    · cases h
/-- A call of a function without arguments, in whatever world: nothing that was there has turned. -/
theorem run_closed (hP : NoCount P) (hm : P.follows .mixedOrders = true) {cf d : Nat} {k : FuncId} {v : Value} (h : (evCall P cf d k [] .nil 0).map (fun o => plain o.1) = some (some v)) (w : World) :
    Calls P k #[] w fun e w' => e = .returned v ∧ Below w.heap.size w w' := by
  cases hc : evCall P cf d k [] .nil 0 with
  | none => rw [hc] at h; cases h
  | some out =>
    rw [hc] at h
    simp only [Option.map_some, Option.some.injEq] at h
    obtain ⟨_, _, h3⟩ := call_ok (base := w.heap.size) hP hm cf d k [] .nil 0 out hc
    refine (h3 (fun _ => none) [] w rfl ⟨Nat.le_refl _, fun n s e => (by cases e), fun n m s t p q e => (by cases e)⟩ (fun _ _ _ => rfl)).mono ?_
    rintro e w' ⟨ρ', u, rfl, g1, g2, g3, g4⟩
    have := plain_den h ρ'
    rw [g2] at this
    injection this with this
    subst this
    exact ⟨rfl, g4.os, g4.tape, g4.output, g4.size, fun b hb => g4.block b hb fun n s p e => (by cases e)⟩
end
end Ev
end Go.Proofs.Ytnjonjjplcnmiaa
