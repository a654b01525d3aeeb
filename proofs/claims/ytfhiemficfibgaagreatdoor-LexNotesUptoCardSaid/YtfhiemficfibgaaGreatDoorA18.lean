/- What the listed variables give; a world that holds them. -/
import Derived.Test.YtfhiemficfibgaaGreatDoorA6
import Derived.Test.YtfhiemficfibgaaGreatDoorRows
import Derived.PinnedBridge
import Derived.Lib.LaidCaseMet
import Derived.Lib.LaidU8T
import Derived.Lib.LaidIn
import Derived.Stop.LaidErr
import Derived.Shelf.Vars
set_option linter.unusedVariables false
namespace Go.Proofs.YtfhiemficfibgaaGreatDoor
open Go.RowKit Go.Shelf Go.Lib

theorem own : ownKnob Tryz.prog.godebug = none := by kernel_rfl
theorem star : "*" ++ "errors.errorString" = "*errors.errorString" := by decide
theorem row162 (u : TypeId) (h : Tryz.prog.typeName? 3 u = some "*errors.errorString") : u = 162 :=
  typeName_ptr_named (nm := "errors.errorString") (by rw [star]; kernel_rfl) (by kernel_rfl) (by decide) u (by rw [star]; exact h)

/-- The listed variables, by the library's own words. -/
def laidSmall : List (String × DataW Unit) := [("math/bits.deBruijn32tab", Rows.laid_math_bits_deBruijn32tab), ("math/bits.deBruijn64tab", Rows.laid_math_bits_deBruijn64tab), ("internal/strconv.uint64pow10", Rows.laid_internal_strconv_uint64pow10), ("unicode/utf8.acceptRanges", Rows.laid_unicode_utf8_acceptRanges), ("strconv.ErrRange", Rows.laid_strconv_ErrRange), ("strconv.ErrSyntax", Rows.laid_strconv_ErrSyntax), ("unicode.White_Space", Rows.laid_unicode_White_Space), ("strings.asciiSpace", Rows.laid_strings_asciiSpace)]
def laidAll : List (String × DataW Unit) := laidSmall ++ [("unicode.CaseRanges", Rows.laid_unicode_CaseRanges)] ++ [("unicode/utf8.first", Rows.laid_unicode_utf8_first)]
theorem pow10_eq : (Rows.laid_internal_strconv_uint64pow10 : DataW Unit) = tabData .u64 Lib.pow10Tab := by kernel_rfl
theorem accept_eq : (Rows.laid_unicode_utf8_acceptRanges : DataW Unit) = acceptData := by kernel_rfl
theorem space_eq : (Rows.laid_strings_asciiSpace : DataW Unit) = tabData .u8 Lib.asciiSpaceTab := by kernel_rfl
theorem first_eq : Rows.laid_unicode_utf8_first = firstData := Pinned.utf8First_eq
theorem case_eq : Rows.laid_unicode_CaseRanges = caseData := Pinned.caseRanges_eq

theorem tab_of_reads {P : Program} {w : World} {n : String} {k : IntKind} {zs : List Int} {g : Nat} {t e : TypeId} {len : Nat} (h : VarReads P w n (tabData k zs)) (hg : P.globalNamed n = some g) (ht : (P.globals[g]?).map (·.type) = some t) (hu : P.underlying t = some (.array len e)) (he : P.underlying e = some (.int k)) (hce : P.cellsOf e = 1) (hct : P.cellsOf t = len) : TabIs P w n k zs := by
  obtain ⟨g', t', cs, fuel, p, hg', hty, hvar, hd⟩ := h
  obtain rfl := Option.some.inj (hg.symm.trans hg')
  obtain rfl := Option.some.inj (ht.symm.trans hty)
  have hcs := cells_of_tab hu he hce hct hd
  unfold TabIs
  rw [hvar, ← hcs]

/-- **What the calls read of the package-level variables: off the row's list and the world's shape.** -/
theorem env_of {W : World} (hL : laidMetH Tryz.prog laidAll W) (hsh : W.ShapedOpen Tryz.prog) : Env W := by
  have hL' : laidMet Tryz.prog laidAll W := hL
  obtain ⟨a0, t0, hv0, _, _, _⟩ := laid_sentinel (g := 7) hL'.tail.tail.tail.tail (by kernel_rfl) (by kernel_rfl) Tryz.underlying58 row162 Tryz.underlying162 Tryz.underlying164 rfl rfl Tryz.underlying9 (by kernel_rfl) (by kernel_rfl)
  obtain ⟨a1, t1, hv1, _, _, _⟩ := laid_sentinel (g := 6) hL'.tail.tail.tail.tail.tail (by kernel_rfl) (by kernel_rfl) Tryz.underlying58 row162 Tryz.underlying162 Tryz.underlying164 rfl rfl Tryz.underlying9 (by kernel_rfl) (by kernel_rfl)
  have g7 : Tryz.prog.globalNamed "strconv.ErrRange" = some 7 := by kernel_rfl
  have g6 : Tryz.prog.globalNamed "strconv.ErrSyntax" = some 6 := by kernel_rfl
  have rd : ∀ n d, (n, d) ∈ laidAll → VarReads Tryz.prog W n d := fun n d h => Lib.laidMet.reads hL' h
  have hfirst : VarReads Tryz.prog W "unicode/utf8.first" firstData := by rw [← first_eq]; exact rd _ _ (by simp [laidAll, laidSmall])
  have hacc : VarReads Tryz.prog W "unicode/utf8.acceptRanges" acceptData := by rw [← accept_eq]; exact rd _ _ (by simp [laidAll, laidSmall])
  have hpow : VarReads Tryz.prog W "internal/strconv.uint64pow10" (tabData .u64 Lib.pow10Tab) := by rw [← pow10_eq]; exact rd _ _ (by simp [laidAll, laidSmall])
  have hsp : VarReads Tryz.prog W "strings.asciiSpace" (tabData .u8 Lib.asciiSpaceTab) := by rw [← space_eq]; exact rd _ _ (by simp [laidAll, laidSmall])
  refine ⟨⟨162, .pointer (some a1), ?_⟩, ⟨162, .pointer (some a0), ?_⟩, ?_, ?_, ?_, ?_, ?_⟩
  · rw [World.var?_cell g6 hv1 0]; rfl
  · rw [World.var?_cell g7 hv0 0]; rfl
  · exact cell_of_shapedOpen_int (g := 2) (t := 3) (zero := #[.int .i64 0]) (k := .i64) hsh (of_decide_eq_true (by kernel_rfl)) (by kernel_rfl) rfl (by kernel_rfl) (by kernel_rfl) Tryz.underlying3
  · exact utf8Tabs_of_readsT (ρ := Tryz.lays196_ren) (U8Types.of196 Tryz.lays196) ⟨by kernel_rfl, by kernel_rfl, by kernel_rfl, by kernel_rfl, by kernel_rfl, by kernel_rfl, by kernel_rfl⟩ hfirst hacc
  · exact tab_of_reads hsp (g := 0) (t := 53) (e := 5) (by kernel_rfl) (by kernel_rfl) Tryz.underlying53 Tryz.underlying5 (by kernel_rfl) (by kernel_rfl)
  · exact tab_of_reads hpow (g := 8) (t := 168) (e := 125) (by kernel_rfl) (by kernel_rfl) Tryz.underlying168 Tryz.underlying125 (by kernel_rfl) (by kernel_rfl)
  · have h11 : decide (11 < Tryz.prog.globals.size) = true := by kernel_rfl
    have h0 : (((begin Tryz.prog (fun _ _ => 0) default).world.heap[11]?).bind Obj.row?).isSome = true := by kernel_rfl
    obtain ⟨⟨z, t⟩, hz⟩ := Option.isSome_iff_exists.1 h0
    obtain ⟨cs, hh, _⟩ := hsh.1 11 z t (of_decide_eq_true h11) hz
    have := (Array.getElem?_eq_some_iff.1 hh).1
    omega

def z32 : List Int := [0, 1, 28, 2, 29, 14, 24, 3, 30, 22, 20, 15, 25, 17, 4, 8, 31, 27, 13, 23, 21, 19, 16, 7, 26, 12, 18, 6, 11, 5, 10, 9]
def z64 : List Int := [0, 1, 56, 2, 57, 49, 28, 3, 61, 58, 42, 50, 38, 29, 17, 4, 62, 47, 59, 36, 45, 43, 51, 22, 53, 39, 33, 30, 24, 18, 12, 5, 63, 55, 48, 27, 60, 41, 37, 16, 46, 35, 44, 21, 52, 32, 23, 11, 54, 26, 40, 15, 34, 20, 31, 10, 25, 14, 19, 9, 13, 8, 7, 6]
/-- A world for the witness: the settled one with five blocks more, the listed variables holding what their initialisers lay. -/
noncomputable def laidWorld (os : Os) : World :=
  let N := (World.settled Tryz.prog os).heap.size
  let w0 := World.holding Tryz.prog os ⟨#[.cells (Lib.whiteT.map fun (z : Nat) => Value.int .u16 (z : Int)).toArray 106, .cells #[.slice (some ⟨N, 0, none⟩) 7 7, .slice none 0 0, .int .i64 2] 103,
    .cells Lib.caseCells5 174, .cells #[.string ⟨#[105, 110, 118, 97, 108, 105, 100, 32, 115, 121, 110, 116, 97, 120]⟩] 164, .cells #[.string ⟨#[118, 97, 108, 117, 101, 32, 111, 117, 116, 32, 111, 102, 32, 114, 97, 110, 103, 101]⟩] 164], #[], []⟩
  let put (h : Array Obj) (g : Nat) (cs : Array Value) : Array Obj := h.modify g fun
    | .cells _ t frozen => .cells cs t frozen
    | o => o
  let h0 := put w0.heap 0 (Lib.asciiSpaceTab.map fun z => Value.int .u8 z).toArray
  let h1 := put h0 1 #[.pointer (some ⟨N + 1, 0, none⟩)]
  let h2 := put h1 3 (Lib.firstTab.map fun z => Value.int .u8 z).toArray
  let h3 := put h2 4 ((List.range 16).flatMap fun i => [Value.int .u8 (Lib.accLo i), Value.int .u8 (Lib.accHi i)]).toArray
  let h4 := put h3 5 #[.slice (some ⟨N + 2, 0, none⟩) 336 336]
  let h5 := put h4 6 #[.iface 162 (.pointer (some ⟨N + 3, 0, none⟩))]
  let h6 := put h5 7 #[.iface 162 (.pointer (some ⟨N + 4, 0, none⟩))]
  let h7 := put h6 8 (Lib.pow10Tab.map fun z => Value.int .u64 z).toArray
  let h8 := put h7 9 (z32.map fun z => Value.int .u8 z).toArray
  let h9 := put h8 10 (z64.map fun z => Value.int .u8 z).toArray
  { w0 with heap := h9 }
noncomputable abbrev N0 : Nat := (World.settled Tryz.prog default).heap.size
noncomputable abbrev mem (os : Os) (args : Array Value) : World := ((laidWorld os).forCall (fun _ _ => 0) ⟨#[], args, []⟩).memory
theorem piece_small (os : Os) (args : Array Value) : LaidIn Tryz.prog (mem os args) laidSmall [9, 10, 8, 4, 7, 6, 1, 0, N0, N0 + 1, N0 + 3, N0 + 4] :=
  LaidIn.of_run [9, 10, 8, 4, 7, 6, 1, 0, N0, N0 + 1, N0 + 3, N0 + 4] 10 (by kernel_rfl) (by kernel_rfl) (by kernel_rfl) (by kernel_rfl)
theorem piece_first (os : Os) (args : Array Value) : LaidIn Tryz.prog (mem os args) [("unicode/utf8.first", Rows.laid_unicode_utf8_first)] [3] :=
  LaidIn.of_run [3] 10 (by kernel_rfl) (by kernel_rfl) (by kernel_rfl) (by kernel_rfl)
theorem case_extra : CaseExtra Tryz.prog Tryz.lays159_ren := ⟨by kernel_rfl, by kernel_rfl, by kernel_rfl, by kernel_rfl, by kernel_rfl, by kernel_rfl⟩
set_option maxRecDepth 100000 in
/-- The great table: its reading is proved, not reckoned. -/
theorem case_in {w : World} {R g : Nat} {t1 t2 : TypeId} (hg5 : g = 5) (hgR : g ≠ R) (hvar : w.heap[g]? = some (.cells #[.slice (some ⟨R, 0, none⟩) caseA.size caseA.size] t1 (0, 0))) (hblk : w.heap[R]? = some (.cells caseCells5 t2 (0, 0))) : LaidIn Tryz.prog w [("unicode.CaseRanges", Rows.laid_unicode_CaseRanges)] [g, R] := by
  subst hg5
  have hT := caseTab_of_block hblk
  have hread := case_slice_reads (P := Tryz.prog) (ρ := Tryz.lays159_ren) { Tryz.lays159 with } Tryz.lays159.t206 case_extra hT caseA_wf (by rw [caseA_size]; unfold maxLen; omega) 0
  rw [case_rows_data] at hread
  have hv : w.var? Tryz.prog "unicode.CaseRanges" = some #[.slice (some ⟨R, 0, none⟩) caseA.size caseA.size] := by
    have := case_extra.n13
    simp only [World.var?, this, Option.bind_some]
    rw [show Tryz.lays159_ren.g 13 = 5 from rfl, hvar]
  rw [case_eq]
  refine LaidIn.one (g := 5) (t := 140) [5, R] case_extra.n13 case_extra.y13 hv hread ?_ ?_ ?_
  · refine List.nodup_append.2 ⟨rowP_nodup _ _, rowP_nodup _ _, ?_⟩
    intro a ha b hb e
    obtain ⟨i, _, rfl⟩ := MemPlace.mem_row.1 ha
    obtain ⟨j, _, rfl⟩ := MemPlace.mem_row.1 hb
    simp at e
    exact hgR e.1
  · intro b off hp
    rcases List.mem_append.1 hp with hp | hp
    · obtain ⟨i, hi, e⟩ := MemPlace.mem_row.1 hp
      cases e
      refine ⟨⟨_, _, hvar⟩, fun u v hc => ?_⟩
      obtain rfl : i = 0 := by simp at hi; omega
      rw [Lib.cell_of_heap hvar] at hc
      simp at hc
    · obtain ⟨i, hi, e⟩ := MemPlace.mem_row.1 hp
      cases e
      refine ⟨⟨_, _, hblk⟩, fun u v hc => ?_⟩
      obtain ⟨c0, c1, c2, c3, c4⟩ := hT (i / 5) (by omega)
      have hi5 : 0 + i = 0 + i / 5 * 5 + i % 5 := by omega
      simp only at hc
      rw [hi5] at hc
      have hm : i % 5 < 5 := Nat.mod_lt _ (by omega)
      match hk : i % 5, hm with
      | 0, _ => rw [hk, Nat.add_zero, c0] at hc; cases hc
      | 1, _ => rw [hk, c1] at hc; cases hc
      | 2, _ => rw [hk, c2] at hc; cases hc
      | 3, _ => rw [hk, c3] at hc; cases hc
      | 4, _ => rw [hk, c4] at hc; cases hc
  · intro x hx
    rcases List.mem_append.1 hx with hx | hx
    · obtain ⟨i, _, rfl⟩ := MemPlace.mem_row.1 hx
      simp [MemPlace.block]
    · obtain ⟨i, _, rfl⟩ := MemPlace.mem_row.1 hx
      simp [MemPlace.block]
theorem piece_case (os : Os) (args : Array Value) : LaidIn Tryz.prog (mem os args) [("unicode.CaseRanges", Rows.laid_unicode_CaseRanges)] [5, N0 + 2] :=
  case_in (t1 := 140) (t2 := 174) rfl (of_decide_eq_true (by kernel_rfl)) (by kernel_rfl) (by kernel_rfl)
/-- **The witness' world holds what the rows list.** -/
theorem laid_met (os : Os) (args : Array Value) : laidMet Tryz.prog laidAll (mem os args) :=
  (((piece_small os args).append (piece_case os args) (by kernel_rfl)).append (piece_first os args) (by kernel_rfl)).met
end Go.Proofs.YtfhiemficfibgaaGreatDoor
