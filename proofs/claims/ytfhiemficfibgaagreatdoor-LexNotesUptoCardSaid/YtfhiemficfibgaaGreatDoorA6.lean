/- What the package-level variables hold stays; what the library's numerals and copies give. -/
import Derived.Test.YtfhiemficfibgaaGreatDoorA3
import Derived.Lib.SmallJoins
import Derived.Lib.ByteType
set_option linter.unusedVariables false
namespace Go.Proofs.YtfhiemficfibgaaGreatDoor
open Go.RowKit

/-- What the package-level variables hold that the calls read. -/
structure Env (w : World) : Prop where
  syn : ∃ te pe, w.cell? ⟨6, 0, none⟩ = some (.iface te pe)
  rng : ∃ te pe, w.cell? ⟨7, 0, none⟩ = some (.iface te pe)
  maxl : ∃ m, w.cell? ⟨2, 0, none⟩ = some (.int .i64 m)
  utf8 : Lib.Utf8Tabs 3 4 w
  space : Lib.TabIs Tryz.prog w "strings.asciiSpace" .u8 Lib.asciiSpaceTab
  pow10 : Lib.TabIs Tryz.prog w "internal/strconv.uint64pow10" .u64 Lib.pow10Tab
  size : 12 ≤ w.heap.size
theorem Env.keep {w w' : World} (h : Env w) (hk : ∀ k, k < 12 → w'.heap[k]? = w.heap[k]?) (hs : w.heap.size ≤ w'.heap.size) : Env w' := by
  have hc : ∀ (k i : Nat), k < 12 → w'.cell? ⟨k, i, none⟩ = w.cell? ⟨k, i, none⟩ := fun k i hk' => World.cell?_of_block (w := w) (w' := w') (a := ⟨k, i, none⟩) (hk k hk')
  refine ⟨?_, ?_, ?_, ?_, ?_, ?_, Nat.le_trans h.size hs⟩
  · rw [hc 6 0 (by omega)]; exact h.syn
  · rw [hc 7 0 (by omega)]; exact h.rng
  · rw [hc 2 0 (by omega)]; exact h.maxl
  · have := h.utf8
    unfold Lib.Utf8Tabs at this ⊢
    refine ⟨fun c hc' => by rw [hc 3 c (by omega)]; exact this.1 c hc', fun i hi => ?_⟩
    rw [hc 4 _ (by omega), hc 4 _ (by omega)]
    exact this.2 i hi
  · have := h.space
    unfold Lib.TabIs World.var? at this ⊢
    have e : Tryz.prog.globalNamed "strings.asciiSpace" = some 0 := by kernel_rfl
    rw [e] at this ⊢
    simp only [Option.bind_some] at this ⊢
    rw [hk 0 (by omega)]
    exact this
  · have := h.pow10
    unfold Lib.TabIs World.var? at this ⊢
    have e : Tryz.prog.globalNamed "internal/strconv.uint64pow10" = some 8 := by kernel_rfl
    rw [e] at this ⊢
    simp only [Option.bind_some] at this ⊢
    rw [hk 8 (by omega)]
    exact this
theorem Env.gb {w w' : World} {B : Nat} (h : Env w) (hg : w.grownBy w' (some B)) (hB : 12 ≤ B) : Env w' :=
  h.keep (fun k hk => hg.block k (Nat.lt_of_lt_of_le hk h.size) (fun e => by injection e with e; omega)) hg.size
theorem Env.below {w w' : World} (h : Env w) (hb : Below w.heap.size w w') : Env w' := h.keep (fun k hk => hb.block k (Nat.lt_of_lt_of_le hk h.size)) hb.size
theorem Env.alloc {w : World} (h : Env w) (o : Obj) : Env (w.alloc o) := h.below ((Below.refl _ _).alloc (Nat.le_refl _) o)
theorem Env.drewN {w : World} (h : Env w) (n : Nat) : Env (w.drewN n) := h.keep (fun _ _ => rfl) (Nat.le_refl _)
theorem Env.set {w : World} (h : Env w) {k : Nat} (hk : 12 ≤ k) (i : Nat) (v : Value) : Env (w.setCell ⟨k, i, none⟩ v) :=
  h.keep (fun j hj => Below.heap_setCell w ⟨k, i, none⟩ v j (fun e => by simp at e; omega)) (by rw [size_set]; exact Nat.le_refl _)

/-- strconv.Atoi, at any text. -/
theorem atoi_any (d : ByteArray) (hd : d.size ≤ 281474976710656) (v : Int) (over : Bool) (hv : atoiV d.data.toList = v) (ho : atoiOver d.data.toList = over) (w : World) (hE : Env w) :
    Calls Tryz.prog 35 #[.string d] w fun e w' => ∃ ev, e = .returned (.tuple #[.int .i64 v, ev]) ∧ (over = false → ev = .nilIface) ∧ (over = true → ∃ p, ev = .iface 121 p) ∧ Below w.heap.size w w' := by
  subst hv ho
  match h : Lib.atoiAll d.data.toList with
  | .ok x =>
    refine (Tryz.strconv_Atoi_ok d (by omega) x h w).mono ?_
    rintro e w' ⟨rfl, hw⟩
    refine ⟨.nilIface, by simp [atoiV, h], fun _ => rfl, fun hc => by simp [atoiOver, h] at hc, ?_⟩
    rcases hw with rfl | ⟨t, rfl⟩
    · exact Below.refl _ _
    · exact Joins.below_bytesWorld _ _ _ _ (Nat.le_refl _)
  | Lib.NumEnd.syntax =>
    obtain ⟨te, pe, hs⟩ := hE.syn
    refine (Tryz.strconv_Atoi_syntax d hd h _ w hs (.inr ⟨te, pe, rfl⟩)).mono ?_
    rintro e w' ⟨N, rfl, _, _, hb⟩
    exact ⟨.iface 121 (.pointer (some ⟨N, 0, none⟩)), by simp [atoiV, h], fun hc => by simp [atoiOver, h] at hc, fun _ => ⟨_, rfl⟩, hb⟩
  | .range =>
    obtain ⟨te, pe, hs⟩ := hE.rng
    refine (Tryz.strconv_Atoi_range d hd h _ w hs (.inr ⟨te, pe, rfl⟩)).mono ?_
    rintro e w' ⟨N, rfl, _, _, hb⟩
    exact ⟨.iface 121 (.pointer (some ⟨N, 0, none⟩)), by simp [atoiV, h], fun hc => by simp [atoiOver, h] at hc, fun _ => ⟨_, rfl⟩, hb⟩

/-- strings.Repeat("0", c). -/
theorem repeat_any (c : Nat) (hc : c ≤ 4) (w : World) :
    Calls Tryz.prog 38 #[.string (bs [48]), .int .i64 (c : Int)] w fun e w' => e = .returned (.string (bs (Lib.repeatL [48] c))) ∧ Below w.heap.size w w' := by
  have h := Tryz.strings_Repeat (bs [48]) c w (by omega) (by rw [bs_size]; simp; omega)
  rw [bs_toList] at h
  exact h
end Go.Proofs.YtfhiemficfibgaaGreatDoor
