/- The next token. -/
import Derived.Test.YtfhiemficfibgaaGreatDoorA5
import Derived.Test.YtfhiemficfibgaaGreatDoorA9
import Derived.Test.YtfhiemficfibgaaGreatDoorA10
import Derived.Test.YtfhiemficfibgaaGreatDoorB2
import Derived.ScopeJumps
import Derived.WalkMore
set_option linter.unusedVariables false
namespace Go.Proofs.YtfhiemficfibgaaGreatDoor
open Go.RowKit

theorem wp_again {P : Program} {Q : Exit → Act → World → Prop} {a : Act} {w : World} {x : Code} (l : Nat) (J : Act → World → Prop) (μ : Act → World → Nat) (hf : findLabel ((Code.label l).seq x) l = some (Code.skip.seq x)) (h0 : J a w)
    (pass : ∀ a w, J a w → x.wp P (Exit.jump l (fun a' w' => J a' w' ∧ μ a' w' < μ a w) Q) a w) : (Code.scope ((Code.label l).seq x)).wp P Q a w := by
  refine wp_scope_jumps l J μ hf ?_ (fun a w hJ => wp_seq (wp_skip (pass a w hJ)))
  refine wp_seq (wp_label ?_)
  refine wp_mono (pass a w h0) ?_
  intro e a' w' h
  cases e <;> first | exact h | exact ⟨h.1, h.2.1⟩

/-- What holds at the label. -/
structure NextI (ws : List Bytes) (B : Nat) (s : ByteArray) (m at_ : Nat) (w w' : World) (j : Nat) : Prop where
  le : j ≤ s.size
  rdr : Rdr w' B s j m 0 0
  res : Blk w' w.heap.size (tokC 0 (bs []) 0 0) 28
  grown : w.grownBy w' (some B)
  nx : NX ws (s.data.toList.drop at_) at_ = NX ws (s.data.toList.drop j) j
def NextJ (ws : List Bytes) (B : Nat) (s : ByteArray) (m at_ : Nat) (w : World) (a' : Act) (w' : World) : Prop :=
  ∃ (u4 u5 u6 u7 u8 u9 u10 u11 u12 u13 u14 u15 u16 u17 u18 u19 u20 u21 u22 u23 u24 u25 u26 u27 u28 u29 u30 u31 u32 u33 u34 u35 u36 u37 u38 u39 u40 u41 u42 u43 u44 u45 u46 u47 u48 u49 u50 u51 u52 u53 u54 u55 u56 u57 u58 u59 u60 u61 u62 u63 u64 u65 u66 u67 u68 u69 u70 u71 u72 u73 u74 u75 u76 u77 u78 u79 u80 u81 u82 u83 u84 u85 u86 u87 u88 u89 u90 u91 u92 u93 u94 u95 u96 u97 u98 u99 u100 u101 u102 u103 u104 u105 u106 u107 u108 u109 u110 u111 u112 u113 u114 u115 u116 u117 u118 u119 u120 u121 u122 u123 u124 : Value), a' = { tmps := #[.pointer (some ⟨B, 0, none⟩), undef, .pointer (some ⟨w.heap.size, 0, none⟩), .bool false, u4, u5, u6, u7, u8, u9, u10, u11, u12, u13, u14, u15, u16, u17, u18, u19, u20, u21, u22, u23, u24, u25, u26, u27, u28, u29, u30, u31, u32, u33, u34, u35, u36, u37, u38, u39, u40, u41, u42, u43, u44, u45, u46, u47, u48, u49, u50, u51, u52, u53, u54, u55, u56, u57, u58, u59, u60, u61, u62, u63, u64, u65, u66, u67, u68, u69, u70, u71, u72, u73, u74, u75, u76, u77, u78, u79, u80, u81, u82, u83, u84, u85, u86, u87, u88, u89, u90, u91, u92, u93, u94, u95, u96, u97, u98, u99, u100, u101, u102, u103, u104, u105, u106, u107, u108, u109, u110, u111, u112, u113, u114, u115, u116, u117, u118, u119, u120, u121, u122, u123, u124], defers := [] } ∧ ∃ j, NextI ws B s m at_ w w' j
theorem NextJ.mk {ws : List Bytes} {B : Nat} {s : ByteArray} {m at_ : Nat} {w w' : World} {j : Nat} (h : NextI ws B s m at_ w w' j) (u4 u5 u6 u7 u8 u9 u10 u11 u12 u13 u14 u15 u16 u17 u18 u19 u20 u21 u22 u23 u24 u25 u26 u27 u28 u29 u30 u31 u32 u33 u34 u35 u36 u37 u38 u39 u40 u41 u42 u43 u44 u45 u46 u47 u48 u49 u50 u51 u52 u53 u54 u55 u56 u57 u58 u59 u60 u61 u62 u63 u64 u65 u66 u67 u68 u69 u70 u71 u72 u73 u74 u75 u76 u77 u78 u79 u80 u81 u82 u83 u84 u85 u86 u87 u88 u89 u90 u91 u92 u93 u94 u95 u96 u97 u98 u99 u100 u101 u102 u103 u104 u105 u106 u107 u108 u109 u110 u111 u112 u113 u114 u115 u116 u117 u118 u119 u120 u121 u122 u123 u124 : Value) : NextJ ws B s m at_ w { tmps := #[.pointer (some ⟨B, 0, none⟩), undef, .pointer (some ⟨w.heap.size, 0, none⟩), .bool false, u4, u5, u6, u7, u8, u9, u10, u11, u12, u13, u14, u15, u16, u17, u18, u19, u20, u21, u22, u23, u24, u25, u26, u27, u28, u29, u30, u31, u32, u33, u34, u35, u36, u37, u38, u39, u40, u41, u42, u43, u44, u45, u46, u47, u48, u49, u50, u51, u52, u53, u54, u55, u56, u57, u58, u59, u60, u61, u62, u63, u64, u65, u66, u67, u68, u69, u70, u71, u72, u73, u74, u75, u76, u77, u78, u79, u80, u81, u82, u83, u84, u85, u86, u87, u88, u89, u90, u91, u92, u93, u94, u95, u96, u97, u98, u99, u100, u101, u102, u103, u104, u105, u106, u107, u108, u109, u110, u111, u112, u113, u114, u115, u116, u117, u118, u119, u120, u121, u122, u123, u124], defers := [] } w' := by
  unfold NextJ
  refine Exists.intro u4 ?_
  refine Exists.intro u5 ?_
  refine Exists.intro u6 ?_
  refine Exists.intro u7 ?_
  refine Exists.intro u8 ?_
  refine Exists.intro u9 ?_
  refine Exists.intro u10 ?_
  refine Exists.intro u11 ?_
  refine Exists.intro u12 ?_
  refine Exists.intro u13 ?_
  refine Exists.intro u14 ?_
  refine Exists.intro u15 ?_
  refine Exists.intro u16 ?_
  refine Exists.intro u17 ?_
  refine Exists.intro u18 ?_
  refine Exists.intro u19 ?_
  refine Exists.intro u20 ?_
  refine Exists.intro u21 ?_
  refine Exists.intro u22 ?_
  refine Exists.intro u23 ?_
  refine Exists.intro u24 ?_
  refine Exists.intro u25 ?_
  refine Exists.intro u26 ?_
  refine Exists.intro u27 ?_
  refine Exists.intro u28 ?_
  refine Exists.intro u29 ?_
  refine Exists.intro u30 ?_
  refine Exists.intro u31 ?_
  refine Exists.intro u32 ?_
  refine Exists.intro u33 ?_
  refine Exists.intro u34 ?_
  refine Exists.intro u35 ?_
  refine Exists.intro u36 ?_
  refine Exists.intro u37 ?_
  refine Exists.intro u38 ?_
  refine Exists.intro u39 ?_
  refine Exists.intro u40 ?_
  refine Exists.intro u41 ?_
  refine Exists.intro u42 ?_
  refine Exists.intro u43 ?_
  refine Exists.intro u44 ?_
  refine Exists.intro u45 ?_
  refine Exists.intro u46 ?_
  refine Exists.intro u47 ?_
  refine Exists.intro u48 ?_
  refine Exists.intro u49 ?_
  refine Exists.intro u50 ?_
  refine Exists.intro u51 ?_
  refine Exists.intro u52 ?_
  refine Exists.intro u53 ?_
  refine Exists.intro u54 ?_
  refine Exists.intro u55 ?_
  refine Exists.intro u56 ?_
  refine Exists.intro u57 ?_
  refine Exists.intro u58 ?_
  refine Exists.intro u59 ?_
  refine Exists.intro u60 ?_
  refine Exists.intro u61 ?_
  refine Exists.intro u62 ?_
  refine Exists.intro u63 ?_
  refine Exists.intro u64 ?_
  refine Exists.intro u65 ?_
  refine Exists.intro u66 ?_
  refine Exists.intro u67 ?_
  refine Exists.intro u68 ?_
  refine Exists.intro u69 ?_
  refine Exists.intro u70 ?_
  refine Exists.intro u71 ?_
  refine Exists.intro u72 ?_
  refine Exists.intro u73 ?_
  refine Exists.intro u74 ?_
  refine Exists.intro u75 ?_
  refine Exists.intro u76 ?_
  refine Exists.intro u77 ?_
  refine Exists.intro u78 ?_
  refine Exists.intro u79 ?_
  refine Exists.intro u80 ?_
  refine Exists.intro u81 ?_
  refine Exists.intro u82 ?_
  refine Exists.intro u83 ?_
  refine Exists.intro u84 ?_
  refine Exists.intro u85 ?_
  refine Exists.intro u86 ?_
  refine Exists.intro u87 ?_
  refine Exists.intro u88 ?_
  refine Exists.intro u89 ?_
  refine Exists.intro u90 ?_
  refine Exists.intro u91 ?_
  refine Exists.intro u92 ?_
  refine Exists.intro u93 ?_
  refine Exists.intro u94 ?_
  refine Exists.intro u95 ?_
  refine Exists.intro u96 ?_
  refine Exists.intro u97 ?_
  refine Exists.intro u98 ?_
  refine Exists.intro u99 ?_
  refine Exists.intro u100 ?_
  refine Exists.intro u101 ?_
  refine Exists.intro u102 ?_
  refine Exists.intro u103 ?_
  refine Exists.intro u104 ?_
  refine Exists.intro u105 ?_
  refine Exists.intro u106 ?_
  refine Exists.intro u107 ?_
  refine Exists.intro u108 ?_
  refine Exists.intro u109 ?_
  refine Exists.intro u110 ?_
  refine Exists.intro u111 ?_
  refine Exists.intro u112 ?_
  refine Exists.intro u113 ?_
  refine Exists.intro u114 ?_
  refine Exists.intro u115 ?_
  refine Exists.intro u116 ?_
  refine Exists.intro u117 ?_
  refine Exists.intro u118 ?_
  refine Exists.intro u119 ?_
  refine Exists.intro u120 ?_
  refine Exists.intro u121 ?_
  refine Exists.intro u122 ?_
  refine Exists.intro u123 ?_
  refine Exists.intro u124 ?_
  exact ⟨rfl, j, h⟩
/-- How far it is to the end. -/
def NextM (B : Nat) (s : ByteArray) (w : World) : Nat := match w.cell? ⟨B, 1, none⟩ with | some (.int _ n) => s.size - n.toNat | _ => 0
theorem NextI.far {ws : List Bytes} {B : Nat} {s : ByteArray} {m at_ : Nat} {w w' : World} {j : Nat} (h : NextI ws B s m at_ w w' j) : NextM B s w' = s.size - j := by
  unfold NextM
  rw [h.rdr.cells.2.1]
  simp

/-- What the next token's reader leaves. -/
def NextPost (ws : List Bytes) (B : Nat) (s : ByteArray) (m at_ : Nat) (w : World) (e : Ending) (w' : World) : Prop :=
  w.grownBy w' (some B) ∧ match NX ws (s.data.toList.drop at_) at_ with
  | .fin => e = .returned (.tuple #[tokV 0 (bs []) 0 0, .bool false]) ∧ ∃ at1, at1 ≤ s.size ∧ Rdr w' B s at1 m 0 0
  | .bad p err => (∃ k t n a ok, e = .returned (.tuple #[tokV k t n a, .bool ok])) ∧ err ≠ 0 ∧ ∃ at1, at1 ≤ s.size ∧ Rdr w' B s at1 m err p
  | .tok p g => e = .returned (.tuple #[tokV g.kind (bs g.text) g.n p, .bool true]) ∧ p + g.used ≤ s.size ∧ Rdr w' B s (p + g.used) m 0 0

theorem NextI.drewN {ws : List Bytes} {B : Nat} {s : ByteArray} {m at_ : Nat} {w w' : World} {j : Nat} (h : NextI ws B s m at_ w w' j) (n : Nat) : NextI ws B s m at_ w (w'.drewN n) j :=
  ⟨h.le, h.rdr.drewN n, h.res.drewN n, gb_drewN h.grown n, h.nx⟩
/-- Blanks or a note have been passed over. -/
theorem NextI.skip {ws : List Bytes} {B : Nat} {s : ByteArray} {m at_ : Nat} {w w' w2 : World} {j k : Nat} (h : NextI ws B s m at_ w w' j) (hB : B < w.heap.size) (hj : j < s.size) (hk : skipL (s.data.toList.drop j) = .by_ k) (hr : Rdr w2 B s (j + k) m 0 0) (hg : w'.grownBy w2 (some B)) :
    NextI ws B s m at_ w w2 (j + k) ∧ NextM B s w2 < s.size - j := by
  have hne : s.data.toList.drop j ≠ [] := by
    intro e
    have := congrArg List.length e
    rw [List.length_drop, size_list] at this
    simp at this
    omega
  have hk2 := skipL_range hne hk
  rw [List.length_drop, size_list] at hk2
  have hI : NextI ws B s m at_ w w2 (j + k) := ⟨by omega, hr, h.res.keep hg (by simp; omega), gb_trans h.grown hg, by rw [h.nx, NX_skip ws j hne hk, List.drop_drop]⟩
  exact ⟨hI, by rw [hI.far]; omega⟩
/-- A token, or an error, has been read. -/
theorem NextI.read {ws : List Bytes} {B : Nat} {s : ByteArray} {m at_ : Nat} {w w' w2 : World} {j : Nat} {e1 : Ending} {g : Got} (h : NextI ws B s m at_ w w' j) (hj : j < s.size) (hk : skipL (s.data.toList.drop j) = .none) (hg : tokL ws (s.data.toList.drop j) = g) (hr : ReadPost B s m j g w' e1 w2) :
    ∃ k t n a, e1 = .returned (tokV k t n a) ∧ w'.grownBy w2 (some B) ∧ (∃ at1 err bad, Rdr w2 B s at1 m err bad) ∧ ∀ w3, w.grownBy w3 (some B) → (∀ at1 err bad, Rdr w2 B s at1 m err bad → Rdr w3 B s at1 m err bad) → NextPost ws B s m at_ w (.returned (.tuple #[tokV k t n a, .bool true])) w3 := by
  have hne : s.data.toList.drop j ≠ [] := by
    intro e
    have := congrArg List.length e
    rw [List.length_drop, size_list] at this
    simp at this
    omega
  obtain ⟨⟨k, t, n, a, he, hok⟩, h1, h2, h3⟩ := hr
  refine ⟨k, t, n, a, he, h3, ?_, ?_⟩
  · by_cases hz : g.err = 0
    · exact ⟨_, _, _, h1 hz⟩
    · obtain ⟨at1, _, hr⟩ := h2 hz
      exact ⟨_, _, _, hr⟩
  · intro w3 hg3 hr3
    refine ⟨hg3, ?_⟩
    rw [h.nx, NX_tok ws j hne hk, hg]
    by_cases hz : g.err = 0
    · rw [if_pos hz]
      obtain ⟨rfl, rfl, rfl, rfl⟩ := hok hz
      have hr4 := hr3 _ _ _ (h1 hz)
      refine ⟨rfl, ?_, hr4⟩
      have := (tokL_used ws hne (by rw [hg]; exact hz)).2
      rw [hg, List.length_drop, size_list] at this
      omega
    · rw [if_neg hz]
      obtain ⟨at1, hle, hr⟩ := h2 hz
      exact ⟨⟨k, t, n, a, true, rfl⟩, hz, at1, hle, hr3 _ _ _ hr⟩

theorem nameL_ok (ws : List Bytes) (r : Bytes) : (nameL ws r).err = 0 := by
  unfold nameL
  dsimp only
  split <;> rfl

set_option maxRecDepth 100000 in
set_option maxHeartbeats 4000000 in
theorem next_any (ws : List Bytes) (B : Nat) (s : ByteArray) (at_ : Nat) (m : Nat) (w : World) (hr : Rdr w B s at_ m 0 0) (hs : s.size ≤ 2000000) (hat : at_ ≤ s.size) (hE : Env w) (hB12 : 12 ≤ B) (hm : WordMap w m ws) (hmB : m ≠ B) :
    Calls Tryz.prog 12 #[.pointer (some ⟨B, 0, none⟩)] w (NextPost ws B s m at_ w) := by
  have HR := Lib.hid hr
  have HE := Lib.hid hE
  have HM := Lib.hid hm
  have hB := hr.lt
  clear hr hE hm
  go_enter Tryz.func12, Tryz.ntmps12
  go_wp2
  refine wp_again 0 (NextJ ws B s m at_ w) (fun _ w' => NextM B s w') rfl ?_ ?_
  · exact NextJ.mk (j := at_) ⟨hat, HR.out.alloc _, Blk.new _ _ _, gb_alloc (gb_refl _ _) _, rfl⟩ undef undef undef undef undef undef undef undef undef undef undef undef undef undef undef undef undef undef undef undef undef undef undef undef undef undef undef undef undef undef undef undef undef undef undef undef undef undef undef undef undef undef undef undef undef undef undef undef undef undef undef undef undef undef undef undef undef undef undef undef undef undef undef undef undef undef undef undef undef undef undef undef undef undef undef undef undef undef undef undef undef undef undef undef undef undef undef undef undef undef undef undef undef undef undef undef undef undef undef undef undef undef undef undef undef undef undef undef undef undef undef undef undef undef undef undef undef undef undef undef undef
  · intro a' w1 hJ
    unfold NextJ at hJ
    obtain ⟨u4, hJ⟩ := hJ
    obtain ⟨u5, hJ⟩ := hJ
    obtain ⟨u6, hJ⟩ := hJ
    obtain ⟨u7, hJ⟩ := hJ
    obtain ⟨u8, hJ⟩ := hJ
    obtain ⟨u9, hJ⟩ := hJ
    obtain ⟨u10, hJ⟩ := hJ
    obtain ⟨u11, hJ⟩ := hJ
    obtain ⟨u12, hJ⟩ := hJ
    obtain ⟨u13, hJ⟩ := hJ
    obtain ⟨u14, hJ⟩ := hJ
    obtain ⟨u15, hJ⟩ := hJ
    obtain ⟨u16, hJ⟩ := hJ
    obtain ⟨u17, hJ⟩ := hJ
    obtain ⟨u18, hJ⟩ := hJ
    obtain ⟨u19, hJ⟩ := hJ
    obtain ⟨u20, hJ⟩ := hJ
    obtain ⟨u21, hJ⟩ := hJ
    obtain ⟨u22, hJ⟩ := hJ
    obtain ⟨u23, hJ⟩ := hJ
    obtain ⟨u24, hJ⟩ := hJ
    obtain ⟨u25, hJ⟩ := hJ
    obtain ⟨u26, hJ⟩ := hJ
    obtain ⟨u27, hJ⟩ := hJ
    obtain ⟨u28, hJ⟩ := hJ
    obtain ⟨u29, hJ⟩ := hJ
    obtain ⟨u30, hJ⟩ := hJ
    obtain ⟨u31, hJ⟩ := hJ
    obtain ⟨u32, hJ⟩ := hJ
    obtain ⟨u33, hJ⟩ := hJ
    obtain ⟨u34, hJ⟩ := hJ
    obtain ⟨u35, hJ⟩ := hJ
    obtain ⟨u36, hJ⟩ := hJ
    obtain ⟨u37, hJ⟩ := hJ
    obtain ⟨u38, hJ⟩ := hJ
    obtain ⟨u39, hJ⟩ := hJ
    obtain ⟨u40, hJ⟩ := hJ
    obtain ⟨u41, hJ⟩ := hJ
    obtain ⟨u42, hJ⟩ := hJ
    obtain ⟨u43, hJ⟩ := hJ
    obtain ⟨u44, hJ⟩ := hJ
    obtain ⟨u45, hJ⟩ := hJ
    obtain ⟨u46, hJ⟩ := hJ
    obtain ⟨u47, hJ⟩ := hJ
    obtain ⟨u48, hJ⟩ := hJ
    obtain ⟨u49, hJ⟩ := hJ
    obtain ⟨u50, hJ⟩ := hJ
    obtain ⟨u51, hJ⟩ := hJ
    obtain ⟨u52, hJ⟩ := hJ
    obtain ⟨u53, hJ⟩ := hJ
    obtain ⟨u54, hJ⟩ := hJ
    obtain ⟨u55, hJ⟩ := hJ
    obtain ⟨u56, hJ⟩ := hJ
    obtain ⟨u57, hJ⟩ := hJ
    obtain ⟨u58, hJ⟩ := hJ
    obtain ⟨u59, hJ⟩ := hJ
    obtain ⟨u60, hJ⟩ := hJ
    obtain ⟨u61, hJ⟩ := hJ
    obtain ⟨u62, hJ⟩ := hJ
    obtain ⟨u63, hJ⟩ := hJ
    obtain ⟨u64, hJ⟩ := hJ
    obtain ⟨u65, hJ⟩ := hJ
    obtain ⟨u66, hJ⟩ := hJ
    obtain ⟨u67, hJ⟩ := hJ
    obtain ⟨u68, hJ⟩ := hJ
    obtain ⟨u69, hJ⟩ := hJ
    obtain ⟨u70, hJ⟩ := hJ
    obtain ⟨u71, hJ⟩ := hJ
    obtain ⟨u72, hJ⟩ := hJ
    obtain ⟨u73, hJ⟩ := hJ
    obtain ⟨u74, hJ⟩ := hJ
    obtain ⟨u75, hJ⟩ := hJ
    obtain ⟨u76, hJ⟩ := hJ
    obtain ⟨u77, hJ⟩ := hJ
    obtain ⟨u78, hJ⟩ := hJ
    obtain ⟨u79, hJ⟩ := hJ
    obtain ⟨u80, hJ⟩ := hJ
    obtain ⟨u81, hJ⟩ := hJ
    obtain ⟨u82, hJ⟩ := hJ
    obtain ⟨u83, hJ⟩ := hJ
    obtain ⟨u84, hJ⟩ := hJ
    obtain ⟨u85, hJ⟩ := hJ
    obtain ⟨u86, hJ⟩ := hJ
    obtain ⟨u87, hJ⟩ := hJ
    obtain ⟨u88, hJ⟩ := hJ
    obtain ⟨u89, hJ⟩ := hJ
    obtain ⟨u90, hJ⟩ := hJ
    obtain ⟨u91, hJ⟩ := hJ
    obtain ⟨u92, hJ⟩ := hJ
    obtain ⟨u93, hJ⟩ := hJ
    obtain ⟨u94, hJ⟩ := hJ
    obtain ⟨u95, hJ⟩ := hJ
    obtain ⟨u96, hJ⟩ := hJ
    obtain ⟨u97, hJ⟩ := hJ
    obtain ⟨u98, hJ⟩ := hJ
    obtain ⟨u99, hJ⟩ := hJ
    obtain ⟨u100, hJ⟩ := hJ
    obtain ⟨u101, hJ⟩ := hJ
    obtain ⟨u102, hJ⟩ := hJ
    obtain ⟨u103, hJ⟩ := hJ
    obtain ⟨u104, hJ⟩ := hJ
    obtain ⟨u105, hJ⟩ := hJ
    obtain ⟨u106, hJ⟩ := hJ
    obtain ⟨u107, hJ⟩ := hJ
    obtain ⟨u108, hJ⟩ := hJ
    obtain ⟨u109, hJ⟩ := hJ
    obtain ⟨u110, hJ⟩ := hJ
    obtain ⟨u111, hJ⟩ := hJ
    obtain ⟨u112, hJ⟩ := hJ
    obtain ⟨u113, hJ⟩ := hJ
    obtain ⟨u114, hJ⟩ := hJ
    obtain ⟨u115, hJ⟩ := hJ
    obtain ⟨u116, hJ⟩ := hJ
    obtain ⟨u117, hJ⟩ := hJ
    obtain ⟨u118, hJ⟩ := hJ
    obtain ⟨u119, hJ⟩ := hJ
    obtain ⟨u120, hJ⟩ := hJ
    obtain ⟨u121, hJ⟩ := hJ
    obtain ⟨u122, hJ⟩ := hJ
    obtain ⟨u123, hJ⟩ := hJ
    obtain ⟨u124, hJ⟩ := hJ
    obtain ⟨rfl, j, hI⟩ := hJ
    have hj := hI.le
    have hfar := hI.far
    obtain ⟨c0, c1, c2, c3, c4, f1, f3, f4⟩ := hI.rdr.cells
    obtain ⟨v0, v1, v2, v3, g0, g1, g2, g3, hl0⟩ := tok_cells hI.res
    have hBw := hI.rdr.lt
    have HI := Lib.hid hI
    have HF := Lib.hid hfar
    clear hI hfar
    by_cases hend : j = s.size
    · subst hend
      have hd : decide ((s.size : Int) ≤ s.size) = true := by simp
      go_wp2
      go_quiet (fail)
      go_wp2
      simp only [Exit.jump]
      refine bodyPost_ret (v := .tuple #[tokV 0 (bs []) 0 0, .bool false]) (by simp [results, Tryz.results12, go_sem, v0, v1, v2, v3, tokV, bs]) rfl ?_
      refine ⟨?_, ?_⟩
      · repeat (first | with_reducible exact gb_drewN HI.out.grown _ | refine gb_new ?_ (by omega) _ _)
      · rw [HI.out.nx, show s.data.toList.drop s.size = [] from by rw [← size_list]; simp, NX_nil]
        refine ⟨rfl, s.size, by omega, ?_⟩
        repeat (first | with_reducible exact HI.out.rdr.drewN _ | refine Rdr.other ?_ (by omega) _ _)
    · have hjs : j < s.size := by omega
      have hd : decide ((s.size : Int) ≤ j) = false := by simp; omega
      have hb := byteAt_in s j hjs
      obtain ⟨c, hc⟩ : ∃ c, byteAt s j = c := ⟨_, rfl⟩
      have hlk : Hid (lk (s.data.toList.drop j) 0 = c) := by rw [lk_byteAt, ← hc]; rfl
      rw [hc] at hb
      have HC := Lib.hid hb
      have e5 : ((j : Nat) : Int).toNat = j := by omega
      have hjI : (j : Int) < s.size := by omega
      clear hb hc hend
      go_wp2
      go_quiet (fail)
      go_wp2
      go_quiet (fail)
      go_upto_region 4 with fail
      rw [HC.out]
      clear c0 c1 c2 c3 c4 f1 f3 f4 v0 v1 v2 v3 g0 g1 g2 g3 hl0 hBw
      go_cut [33] (fun s33 wx => s33 = .bool (isBlank c) ∧ NextI ws B s m at_ w wx j)
      case first =>
        rcases (by omega : c = 9 ∨ c = 10 ∨ c = 13 ∨ c = 32 ∨ (c ≠ 9 ∧ c ≠ 10 ∧ c ≠ 13 ∧ c ≠ 32)) with rfl | rfl | rfl | rfl | ⟨h1, h2, h3, h4⟩
        · go_wp2_with fail
          go_meet
          exact ⟨rfl, HI.out.drewN _⟩
        · go_wp2_with fail
          go_meet
          exact ⟨rfl, HI.out.drewN _⟩
        · go_wp2_with fail
          go_meet
          exact ⟨rfl, HI.out.drewN _⟩
        · go_wp2_with fail
          go_meet
          exact ⟨rfl, HI.out.drewN _⟩
        · have b1 : (c == 9) = false := by simpa using h1
          have b2 : (c == 10) = false := by simpa using h2
          have b3 : (c == 13) = false := by simpa using h3
          have b4 : (c == 32) = false := by simpa using h4
          have hbl : isBlank c = false := by simp [isBlank, b1, b2, b3, b4]
          have HBL := Lib.hid hbl
          clear h1 h2 h3 h4 hbl
          go_wp2_with fail
          go_meet
          exact ⟨by rw [HBL.out], HI.out.drewN _⟩
      case rest =>
        obtain ⟨rfl, hI⟩ := hcut
        have HI2 := Lib.hid hI
        obtain ⟨c0, c1, c2, c3, c4, f1, f3, f4⟩ := hI.rdr.cells
        obtain ⟨v0, v1, v2, v3, g0, g1, g2, g3, hl0⟩ := tok_cells hI.res
        clear hI HI
        cases hbl : isBlank c
        · have HBLK := Lib.hid hbl
          clear hbl
          have HEc := Lib.hid (HE.out.gb HI2.out.grown hB12)
          obtain ⟨pre1, hpre1⟩ : ∃ b, Lib.hasPrefix (s.data.toList.drop j) [45, 45] = b := ⟨_, rfl⟩
          obtain ⟨pre2, hpre2⟩ : ∃ b, Lib.hasPrefix (s.data.toList.drop j) [47, 42] = b := ⟨_, rfl⟩
          have hp1 : ∀ W : World, Calls Tryz.prog 15 #[.string (s.extract j s.size), .string (bs [45, 45])] W fun e w' => e = .returned (.bool pre1) ∧ W = w' := by
            intro W
            refine (Tryz.strings_HasPrefix _ _ _).mono ?_
            rintro e w' ⟨rfl, rfl⟩
            rw [Lib.extract_to_end, bs_toList, hpre1]
            exact ⟨rfl, rfl⟩
          have hp2 : ∀ W : World, Calls Tryz.prog 15 #[.string (s.extract j s.size), .string (bs [47, 42])] W fun e w' => e = .returned (.bool pre2) ∧ W = w' := by
            intro W
            refine (Tryz.strings_HasPrefix _ _ _).mono ?_
            rintro e w' ⟨rfl, rfl⟩
            rw [Lib.extract_to_end, bs_toList, hpre2]
            exact ⟨rfl, rfl⟩
          have HP1 := Lib.hid hp1
          have HP2 := Lib.hid hp2
          have HPRE1 := Lib.hid hpre1
          have HPRE2 := Lib.hid hpre2
          clear hp1 hp2 hpre1 hpre2
          cases pre1
          · go_wp2
            go_quiet ((go_at_call 15; exact quiet_eq (HP1.out _)))
            cases pre2
            · have hskn : skipL (s.data.toList.drop j) = .none := by
                unfold skipL
                rw [hlk.out, HBLK.out, HPRE1.out, HPRE2.out]
                rfl
              have HSKN := Lib.hid hskn
              clear hskn
              go_wp2
              go_quiet ((go_at_call 15; refine (HP2.out _).mono ?_; rintro e w' ⟨h1, rfl⟩; exact ⟨h1, _, by first | rfl | simp only [World.drewN_drewN] | rw [World.drewN_drewN]⟩))
              obtain ⟨bl, hbl⟩ : ∃ b, isLetter c = b := ⟨_, rfl⟩
              obtain ⟨bd, hbd⟩ : ∃ b, isDigit c = b := ⟨_, rfl⟩
              have hle : ∀ W : World, Calls Tryz.prog 20 #[.int .u8 c] W fun e w' => e = .returned (.bool bl) ∧ W = w' := by
                intro W
                rw [← hbl]
                exact letter_any c W
              have hdi : ∀ W : World, Calls Tryz.prog 22 #[.int .u8 c] W fun e w' => e = .returned (.bool bd) ∧ W = w' := by
                intro W
                rw [← hbd]
                exact digit_any c W
              have HLE := Lib.hid hle
              have HDI := Lib.hid hdi
              have HBL := Lib.hid hbl
              have HBD := Lib.hid hbd
              clear hle hdi hbl hbd
              have HI3 : Hid (∀ n, NextI ws B s m at_ w (wc.drewN n) j) := Lib.hid (fun n => HI2.out.drewN n)
              cases bl
              · go_wp2_with fail
                refine (HLE.out _).mono ?_
                rintro e w2 ⟨rfl, rfl⟩
                cases bd
                · by_cases h39 : c = 39
                  · subst h39
                    go_wp2_with fail
                    refine (HDI.out _).mono ?_
                    rintro e w2 ⟨rfl, rfl⟩
                    go_wp2_with fail
                    refine (text_any B s j m _ (HI3.out _).rdr hs hjs (HEc.out.drewN _) hB12 _ rfl).mono ?_
                    intro e w2 hread
                    have htok : tokL ws (s.data.toList.drop j) = textL (s.data.toList.drop j) := by unfold tokL; rw [hlk.out, HBL.out, HBD.out]; rfl
                    obtain ⟨k, tx, nn, aa, rfl, hg2, ⟨at1, err1, bad1, hr2⟩, hfin⟩ := (HI3.out _).read hjs HSKN.out htok hread
                    have hres := (HI3.out _).res.keep hg2 (by simp; omega)
                    have HFIN := Lib.hid hfin
                    have HG2 := Lib.hid (gb_trans (HI3.out _).grown hg2)
                    clear hread hfin hg2 hr2 htok c0 c1 c2 c3 c4 f1 f3 f4 v0 v1 v2 v3 g0 g1 g2 g3 hl0
                    obtain ⟨v0, v1, v2, v3, g0, g1, g2, g3, hl0⟩ := tok_cells hres
                    clear hres
                    unfold tokV
                    go_wp2
                    simp only [Exit.jump]
                    refine bodyPost_ret (v := .tuple #[tokV k tx nn aa, .bool true]) (by simp [results, Tryz.results12, go_sem, v0, v1, v2, v3, tokV]) rfl ?_
                    refine HFIN.out _ ?_ ?_
                    · repeat (first | with_reducible exact HG2.out | refine gb_new ?_ (by omega) _ _)
                    · intro at1 err1 bad1 h1
                      repeat (first | with_reducible exact h1 | refine Rdr.other ?_ (by omega) _ _)
                  · have b39 : (c == 39) = false := by simpa using h39
                    go_wp2_with fail
                    refine (HDI.out _).mono ?_
                    rintro e w2 ⟨rfl, rfl⟩
                    go_wp2_with fail
                    refine (sign_core B s j m _ (HI3.out _).rdr hs hj _ (Lib.hid rfl)).mono ?_
                    intro e w2 hread
                    have htok : tokL ws (s.data.toList.drop j) = signL (s.data.toList.drop j) := by unfold tokL; rw [hlk.out, HBL.out, HBD.out, b39]; rfl
                    obtain ⟨k, tx, nn, aa, rfl, hg2, ⟨at1, err1, bad1, hr2⟩, hfin⟩ := (HI3.out _).read hjs HSKN.out htok hread
                    have hres := (HI3.out _).res.keep hg2 (by simp; omega)
                    have HFIN := Lib.hid hfin
                    have HG2 := Lib.hid (gb_trans (HI3.out _).grown hg2)
                    clear hread hfin hg2 hr2 htok c0 c1 c2 c3 c4 f1 f3 f4 v0 v1 v2 v3 g0 g1 g2 g3 hl0
                    obtain ⟨v0, v1, v2, v3, g0, g1, g2, g3, hl0⟩ := tok_cells hres
                    clear hres
                    unfold tokV
                    go_wp2
                    simp only [Exit.jump]
                    refine bodyPost_ret (v := .tuple #[tokV k tx nn aa, .bool true]) (by simp [results, Tryz.results12, go_sem, v0, v1, v2, v3, tokV]) rfl ?_
                    refine HFIN.out _ ?_ ?_
                    · repeat (first | with_reducible exact HG2.out | refine gb_new ?_ (by omega) _ _)
                    · intro at1 err1 bad1 h1
                      repeat (first | with_reducible exact h1 | refine Rdr.other ?_ (by omega) _ _)
                · go_wp2_with fail
                  refine (HDI.out _).mono ?_
                  rintro e w2 ⟨rfl, rfl⟩
                  go_wp2_with fail
                  refine (number_any B s j m _ (HI3.out _).rdr hs hj (HEc.out.drewN _) hB12 _ rfl).mono ?_
                  intro e w2 hread
                  have htok : tokL ws (s.data.toList.drop j) = numberL (s.data.toList.drop j) := by unfold tokL; rw [hlk.out, HBL.out, HBD.out]; rfl
                  obtain ⟨k, tx, nn, aa, rfl, hg2, ⟨at1, err1, bad1, hr2⟩, hfin⟩ := (HI3.out _).read hjs HSKN.out htok hread
                  have hres := (HI3.out _).res.keep hg2 (by simp; omega)
                  have HFIN := Lib.hid hfin
                  have HG2 := Lib.hid (gb_trans (HI3.out _).grown hg2)
                  clear hread hfin hg2 hr2 htok c0 c1 c2 c3 c4 f1 f3 f4 v0 v1 v2 v3 g0 g1 g2 g3 hl0
                  obtain ⟨v0, v1, v2, v3, g0, g1, g2, g3, hl0⟩ := tok_cells hres
                  clear hres
                  unfold tokV
                  go_wp2
                  simp only [Exit.jump]
                  refine bodyPost_ret (v := .tuple #[tokV k tx nn aa, .bool true]) (by simp [results, Tryz.results12, go_sem, v0, v1, v2, v3, tokV]) rfl ?_
                  refine HFIN.out _ ?_ ?_
                  · repeat (first | with_reducible exact HG2.out | refine gb_new ?_ (by omega) _ _)
                  · intro at1 err1 bad1 h1
                    repeat (first | with_reducible exact h1 | refine Rdr.other ?_ (by omega) _ _)
              · go_wp2_with fail
                refine (HLE.out _).mono ?_
                rintro e w2 ⟨rfl, rfl⟩
                go_wp2_with fail
                refine ((name_any ws B s j m 0 0 _ (HI3.out _).rdr hs hj (HM.out.grown (gb_drewN HI2.out.grown _) hmB) hmB _ rfl).mono (fun e w' h => ReadPost.ok (nameL_ok ws _) h.1 h.2.1 h.2.2)).mono ?_
                intro e w2 hread
                have htok : tokL ws (s.data.toList.drop j) = nameL ws (s.data.toList.drop j) := by unfold tokL; rw [hlk.out, HBL.out]; rfl
                obtain ⟨k, tx, nn, aa, rfl, hg2, ⟨at1, err1, bad1, hr2⟩, hfin⟩ := (HI3.out _).read hjs HSKN.out htok hread
                have hres := (HI3.out _).res.keep hg2 (by simp; omega)
                have HFIN := Lib.hid hfin
                have HG2 := Lib.hid (gb_trans (HI3.out _).grown hg2)
                clear hread hfin hg2 hr2 htok c0 c1 c2 c3 c4 f1 f3 f4 v0 v1 v2 v3 g0 g1 g2 g3 hl0
                obtain ⟨v0, v1, v2, v3, g0, g1, g2, g3, hl0⟩ := tok_cells hres
                clear hres
                unfold tokV
                go_wp2
                simp only [Exit.jump]
                refine bodyPost_ret (v := .tuple #[tokV k tx nn aa, .bool true]) (by simp [results, Tryz.results12, go_sem, v0, v1, v2, v3, tokV]) rfl ?_
                refine HFIN.out _ ?_ ?_
                · repeat (first | with_reducible exact HG2.out | refine gb_new ?_ (by omega) _ _)
                · intro at1 err1 bad1 h1
                  repeat (first | with_reducible exact h1 | refine Rdr.other ?_ (by omega) _ _)
            · have hlen2 : j + 2 ≤ s.size := by
                have := hasPrefix_length HPRE2.out
                rw [List.length_drop, size_list] at this
                simp at this
                omega
              have q2 : IntKind.i64.wrap ((j : Int) + 2) = (j : Int) + 2 := IntWalk.i64_in _ (by omega)
              have e6 : ((j : Int) + 2).toNat = j + 2 := by omega
              have e7 : (0 : Int) ≤ (j : Int) + 2 := by omega
              have e8 : ((j : Int) + 2) ≤ s.size := by omega
              obtain ⟨i, hi⟩ : ∃ i, Lib.index ((s.data.toList.drop j).drop 2) [42, 47] = i := ⟨_, rfl⟩
              have hix : ∀ W : World, Env W → Calls Tryz.prog 18 #[.string (s.extract (j + 2) s.size), .string (bs [42, 47])] W fun e w' => e = .returned (.int .i64 i) ∧ W = w' := by
                intro W hW
                obtain ⟨mm, hmm⟩ := hW.maxl
                refine (Tryz.strings_Index _ _ mm W (by simp; omega) hmm).mono ?_
                rintro e w' ⟨rfl, rfl⟩
                rw [Lib.extract_to_end, bs_toList, ← List.drop_drop, hi]
                exact ⟨rfl, rfl⟩
              have HIX := Lib.hid hix
              have HI_ := Lib.hid hi
              have hige := Lib.index_ge ((s.data.toList.drop j).drop 2) [42, 47]
              rw [hi] at hige
              clear hix hi
              go_wp2
              go_quiet ((go_at_call 15; refine (HP2.out _).mono ?_; rintro e w' ⟨h1, rfl⟩; exact ⟨h1, _, by first | rfl | simp only [World.drewN_drewN] | rw [World.drewN_drewN]⟩))
              go_wp2
              go_quiet ((go_at_call 18; refine (HIX.out _ (HEc.out.drewN _)).mono ?_; rintro e w' ⟨h1, rfl⟩; exact ⟨h1, _, by first | rfl | simp only [World.drewN_drewN] | rw [World.drewN_drewN]⟩))
              by_cases hneg : i < 0
              · have hskb : skipL (s.data.toList.drop j) = .bad := by
                  unfold skipL
                  rw [hlk.out, HBLK.out, HPRE1.out, HPRE2.out, HI_.out]
                  simp [hneg]
                have HSKB := Lib.hid hskb
                clear hskb
                go_wp2_with fail
                refine (fail_any B s j m 0 0 50 j _ (HI2.out.rdr.drewN _)).mono ?_
                rintro e w2 ⟨rfl, hr2, hg2⟩
                have hres := (HI2.out.res.drewN _).keep hg2 (by simp; omega)
                have HG2 := Lib.hid (gb_trans (gb_drewN HI2.out.grown _) hg2)
                have HR2 : Hid (Rdr w2 B s j m 50 j) := Lib.hid (by simpa [failE, failB] using hr2)
                clear hg2 hr2 c0 c1 c2 c3 c4 f1 f3 f4 v0 v1 v2 v3 g0 g1 g2 g3 hl0
                obtain ⟨v0, v1, v2, v3, g0, g1, g2, g3, hl0⟩ := tok_cells hres
                clear hres
                go_wp2
                simp only [Exit.jump]
                refine bodyPost_ret (v := .tuple #[tokV 0 (bs []) 0 0, .bool false]) (by simp [results, Tryz.results12, go_sem, v0, v1, v2, v3, tokV, bs]) rfl ?_
                refine ⟨?_, ?_⟩
                · repeat (first | with_reducible exact HG2.out | refine gb_new ?_ (by omega) _ _)
                · have hne : s.data.toList.drop j ≠ [] := by
                    intro e
                    have := congrArg List.length e
                    rw [List.length_drop, size_list] at this
                    simp at this
                    omega
                  rw [HI2.out.nx, NX_bad ws j hne HSKB.out]
                  refine ⟨⟨_, _, _, _, _, rfl⟩, by decide, j, hj, ?_⟩
                  repeat (first | with_reducible exact HR2.out | refine Rdr.other ?_ (by omega) _ _)
              · obtain ⟨n, rfl⟩ : ∃ n : Nat, i = (n : Int) := ⟨i.toNat, by omega⟩
                have hskb : skipL (s.data.toList.drop j) = .by_ (n + 4) := by
                  unfold skipL
                  rw [hlk.out, HBLK.out, HPRE1.out, HPRE2.out, HI_.out]
                  simp
                have hfit := index_fits [42, 47] ((s.data.toList.drop j).drop 2) (by rw [HI_.out]; omega)
                rw [HI_.out] at hfit
                simp at hfit
                have q3 : IntKind.i64.wrap ((n : Int) + 4) = (n : Int) + 4 := IntWalk.i64_in _ (by omega)
                have q4 : IntKind.i64.wrap ((j : Int) + ((n : Int) + 4)) = (j : Int) + ((n : Int) + 4) := IntWalk.i64_in _ (by omega)
                have HSK := fun w' (h : NextI ws B s m at_ w w' j) => Lib.hid (h.skip hB hjs hskb (h.rdr.set.1 (j + (n + 4))) (gb_row (gb_refl _ _) _ _))
                rw [show ((j + (n + 4) : Nat) : Int) = (j : Int) + ((n : Int) + 4) from by omega] at HSK
                have HSK2 := Lib.hid HSK
                clear hskb hfit HSK
                go_wp2
                go_step3
                obtain ⟨k1, k2⟩ := (HSK2.out _ (HI2.out.drewN _)).out
                exact ⟨rfl, NextJ.mk k1 _ _ _ _ _ _ _ _ _ _ _ _ _ _ _ _ _ _ _ _ _ _ _ _ _ _ _ _ _ _ _ _ _ _ _ _ _ _ _ _ _ _ _ _ _ _ _ _ _ _ _ _ _ _ _ _ _ _ _ _ _ _ _ _ _ _ _ _ _ _ _ _ _ _ _ _ _ _ _ _ _ _ _ _ _ _ _ _ _ _ _ _ _ _ _ _ _ _ _ _ _ _ _ _ _ _ _ _ _ _ _ _ _ _ _ _ _ _ _ _ _, by rw [HF.out]; exact k2⟩
          · have hskb : skipL (s.data.toList.drop j) = .by_ (run notLine (s.data.toList.drop j)) := by
              unfold skipL
              rw [hlk.out, HBLK.out, HPRE1.out]
              rfl
            have HSKB := Lib.hid hskb
            clear hskb
            go_wp2
            go_quiet ((go_at_call 15; exact quiet_eq (HP1.out _)))
            go_wp2_with fail
            refine (while_any 17 notLine tells_notLine B s j m 0 0 _ (HI2.out.rdr.drewN _) hs hj).mono ?_
            rintro e w2 ⟨rfl, hr2, hg2⟩
            have HSK := Lib.hid (HI2.out.skip hB hjs HSKB.out (by exact hr2) (gb_trans (gb_drewN (gb_refl _ _) _) hg2))
            clear hr2 hg2
            go_wp2
            go_step3
            obtain ⟨k1, k2⟩ := HSK.out
            exact ⟨rfl, NextJ.mk k1 _ _ _ _ _ _ _ _ _ _ _ _ _ _ _ _ _ _ _ _ _ _ _ _ _ _ _ _ _ _ _ _ _ _ _ _ _ _ _ _ _ _ _ _ _ _ _ _ _ _ _ _ _ _ _ _ _ _ _ _ _ _ _ _ _ _ _ _ _ _ _ _ _ _ _ _ _ _ _ _ _ _ _ _ _ _ _ _ _ _ _ _ _ _ _ _ _ _ _ _ _ _ _ _ _ _ _ _ _ _ _ _ _ _ _ _ _ _ _ _ _, by rw [HF.out]; exact k2⟩
        · have hsk : skipL (s.data.toList.drop j) = .by_ 1 := by
            unfold skipL
            rw [hlk.out, hbl]
            rfl
          have q1 : IntKind.i64.wrap ((j : Int) + 1) = (j : Int) + 1 := IntWalk.i64_in _ (by omega)
          have HSK := Lib.hid (HI2.out.skip hB hjs hsk (HI2.out.rdr.set.1 (j + 1)) (gb_row (gb_refl _ _) _ _))
          rw [show ((j + 1 : Nat) : Int) = (j : Int) + 1 from by omega] at HSK
          clear hsk hbl
          go_wp2
          go_step3
          obtain ⟨k1, k2⟩ := HSK.out
          exact ⟨rfl, NextJ.mk k1 _ _ _ _ _ _ _ _ _ _ _ _ _ _ _ _ _ _ _ _ _ _ _ _ _ _ _ _ _ _ _ _ _ _ _ _ _ _ _ _ _ _ _ _ _ _ _ _ _ _ _ _ _ _ _ _ _ _ _ _ _ _ _ _ _ _ _ _ _ _ _ _ _ _ _ _ _ _ _ _ _ _ _ _ _ _ _ _ _ _ _ _ _ _ _ _ _ _ _ _ _ _ _ _ _ _ _ _ _ _ _ _ _ _ _ _ _ _ _ _ _, by rw [HF.out]; exact k2⟩
end Go.Proofs.YtfhiemficfibgaaGreatDoor
