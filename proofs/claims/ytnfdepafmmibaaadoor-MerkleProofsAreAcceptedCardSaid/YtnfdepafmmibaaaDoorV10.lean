/- The tables of the program, as a row lists them, are what the machine has of them | What calls of the two laws leave, for every argument and every world that holds the tables | Worlds in which nothing that was there is touched, against the machine's; digests as values. Conditions: none. -/
import Derived.Test.YtnfdepafmmibaaaDoorV9
import Derived.Test.YtnfdepafmmibaaaDoorRows
/-! The tables of the program, as a row lists them, are what the machine has of them. Conditions: none. -/
set_option linter.unusedVariables false
set_option linter.unusedSimpArgs false
set_option maxRecDepth 20000
namespace Go.Proofs.YtnfdepafmmibaaaDoor
open Go Go.ChangeShapes Go.WideShapes Go.RowKit

def intsOf (cs : List DV) : List Int := cs.map fun d => match d with
  | .v (.int _ z) => z
  | _ => 0
theorem laid_head {P : Program} {W : World} {name : String} {k : IntKind} {zs : List Int} {rest : List (String × DataW Unit)} {g : Nat} {t e : TypeId} {n : Nat} {ps : List MemPlace}
    (hg : P.globalNamed name = some g) (hty : (P.globals[g]?).map (·.type) = some t) (ht : P.underlying t = some (.array n e)) (he : P.underlying e = some (.int k)) (hce : P.cellsOf e = 1) (hct : P.cellsOf t = n)
    (h : DataW.LaidVars P W ((name, Lib.tabData k zs) :: rest) ps) : Lib.TabIs P W name k zs ∧ ∃ q, DataW.LaidVars P W rest q := by
  obtain ⟨g', t', cs, fuel, p, q, hg', ht', hvar, hd, hr, _⟩ := h
  obtain rfl := Option.some.inj (hg.symm.trans hg')
  obtain rfl := Option.some.inj (hty.symm.trans ht')
  refine ⟨?_, q, hr⟩
  unfold Lib.TabIs
  rw [hvar, ← Lib.cells_of_tab ht he hce hct hd]
theorem vrel_tab {P : Program} {W : World} {name : String} {k : IntKind} {zs : List Int} {g : Nat} (h : Lib.TabIs P W name k zs) (hg : P.globalNamed name = some g) (hne : zs ≠ []) :
    VRel (ini W) W (.lptr (zs.map fun z => .v (.int k z)) 0) (.pointer (some ⟨g, 0, none⟩)) := by
  refine .lptr (n := zs.length) (o := 0) (c := zs.length) (by simpa using hne) (drel_row (a := ⟨g, 0, none⟩) (fun i => .int k (zs.getD i 0)) (fun i x hi => ?_) (Nat.le_refl _) (fun h0 => by simpa using h0))
  have hlt : i < zs.length := by
    have := (List.getElem?_eq_some_iff.1 hi).1
    simpa using this
  rw [List.getElem?_map, List.getElem?_eq_getElem hlt] at hi
  simp only [Option.map_some, Option.some.injEq] at hi
  subst hi
  rw [add_eq rfl]
  refine ⟨?_, ?_⟩
  · have := h.cell hg i hlt
    simpa using this
  · rw [List.getD_eq_getElem?_getD, List.getElem?_eq_getElem hlt]
    exact .v rfl
theorem gN0 : Tryd.prog.globalNamed "math/bits.deBruijn32tab" = some 0 := by kernel_rfl
theorem gN1 : Tryd.prog.globalNamed "math/bits.deBruijn64tab" = some 1 := by kernel_rfl
theorem gN2 : Tryd.prog.globalNamed "weirgate/hash.constants" = some 2 := by kernel_rfl
theorem gN3 : Tryd.prog.globalNamed "weirgate/weirgateref02.constants" = some 3 := by kernel_rfl
theorem gT0 : (Tryd.prog.globals[0]?).map (·.type) = some 108 := by kernel_rfl
theorem gT1 : (Tryd.prog.globals[1]?).map (·.type) = some 102 := by kernel_rfl
theorem gT2 : (Tryd.prog.globals[2]?).map (·.type) = some 123 := by kernel_rfl
theorem gT3 : (Tryd.prog.globals[3]?).map (·.type) = some 123 := by kernel_rfl
theorem tab0_eq : tab0 = (intsOf tab0).map fun z => .v (.int .u8 z) := by kernel_rfl
theorem tab1_eq : tab1 = (intsOf tab1).map fun z => .v (.int .u8 z) := by kernel_rfl
theorem tab2_eq : tab2 = (intsOf tab2).map fun z => .v (.int .u32 z) := by kernel_rfl
theorem tab3_eq : tab3 = (intsOf tab3).map fun z => .v (.int .u32 z) := by kernel_rfl
def laidList : List (String × DataW Unit) := [("math/bits.deBruijn32tab", Rows.laid_math_bits_deBruijn32tab), ("math/bits.deBruijn64tab", Rows.laid_math_bits_deBruijn64tab), ("weirgate/weirgateref02.constants", Rows.laid_weirgate_weirgateref02_constants), ("weirgate/hash.constants", Rows.laid_weirgate_hash_constants)]
def laidList' : List (String × DataW Unit) := [("math/bits.deBruijn32tab", Lib.tabData .u8 (intsOf tab0)), ("math/bits.deBruijn64tab", Lib.tabData .u8 (intsOf tab1)), ("weirgate/weirgateref02.constants", Lib.tabData .u32 (intsOf tab3)), ("weirgate/hash.constants", Lib.tabData .u32 (intsOf tab2))]
theorem laidList_eq : laidList = laidList' := by kernel_rfl
/-- What the machine has of the tables is there. -/
theorem glob_of {W : World} (h : laidMetH Tryd.prog laidList W) : ∀ g, VRel (ini W) W (gl0 g) (.pointer (some ⟨g, 0, none⟩)) := by
  have h' : laidMet Tryd.prog laidList W := h
  rw [laidList_eq] at h'
  obtain ⟨ps, hl, _⟩ := h'
  obtain ⟨t0, q0, hl⟩ := laid_head gN0 gT0 Tryd.underlying108 Tryd.underlying5 (by kernel_rfl) (by kernel_rfl) hl
  obtain ⟨t1, q1, hl⟩ := laid_head gN1 gT1 Tryd.underlying102 Tryd.underlying5 (by kernel_rfl) (by kernel_rfl) hl
  obtain ⟨t3, q3, hl⟩ := laid_head gN3 gT3 Tryd.underlying123 Tryd.underlying100 (by kernel_rfl) (by kernel_rfl) hl
  obtain ⟨t2, q2, hl⟩ := laid_head gN2 gT2 Tryd.underlying123 Tryd.underlying100 (by kernel_rfl) (by kernel_rfl) hl
  intro g
  unfold gl0
  split
  · rw [tab0_eq]; exact vrel_tab t0 gN0 (by decide)
  · rw [tab1_eq]; exact vrel_tab t1 gN1 (by decide)
  · rw [tab2_eq]; exact vrel_tab t2 gN2 (by decide)
  · rw [tab3_eq]; exact vrel_tab t3 gN3 (by decide)
  · exact .undef
end Go.Proofs.YtnfdepafmmibaaaDoor

/-! What calls of the two laws leave, for every argument and every world that holds the tables. Conditions: the two functions that are told are what is told of them. -/
set_option linter.unusedVariables false
set_option linter.unusedSimpArgs false
set_option maxRecDepth 20000
namespace Go.Proofs.YtnfdepafmmibaaaDoor
open Go Go.ChangeShapes Go.WideShapes Go.RowKit

theorem prog_mixed : Tryd.prog.follows .mixedOrders = true := by kernel_rfl
theorem prog_names (f : FuncId) (fn : Func) (h : Tryd.prog.funcs[f]? = some fn) : (fn.name == "runtime.NumGoroutine") = false := by
  have h1 : (Tryd.prog.funcs.toList.all fun fn => !(fn.name == "runtime.NumGoroutine")) = true := by kernel_rfl
  have := List.all_eq_true.1 h1 fn (by rw [Array.mem_toList_iff]; exact Array.mem_of_getElem? h)
  simpa using this
theorem prog_kids : Kids Tryd.prog (· < Tryd.prog.types.size) := kids_rows (by kernel_rfl) (by kernel_rfl)
theorem prog_full : ∀ t e, t < Tryd.prog.types.size → Tryd.prog.underlying t = some (.slice e) → 0 < Tryd.prog.cellsOf e := slices_full_of Tryd.prog (by kernel_rfl)
/-- The functions that are told are what is told of them. -/
def Told : Prop := ∀ f g, (X0 true).oracle f = some g → ∀ args s r s', g args s = some (r, s') → RefC (X0 true) f args s r s'
theorem run_of (ho : Told) {f : FuncId} {xs : List AV} {r : AV} (n : Nat) (h : acall (X0 true) n f xs [] = some (r, [])) {W : World} (hL : laidMetH Tryd.prog laidList W) {vs : Array Value} (hv : ARel (ini W) W xs vs) :
    Calls Tryd.prog f vs W fun e w' => ∃ v G', e = .returned v ∧ Below W.heap.size W w' ∧ VRel G' w' r v := by
  have hR : Rel (X0 true) (ini W) [] W := rel_ini (glob_of hL)
  have hc := (calls_sound (X := (X0 true)) prog_mixed prog_names ho n f xs [] r [] h).run (ini W) W vs hR hv
  exact hc.mono fun e w' ⟨v, G', he, _, hx, hr⟩ => ⟨v, G', he, below_of hx, hr⟩
theorem vrel_true {G : Gh} {w : World} {v : Value} (h : VRel G w (vb true) v) : v = .bool true := by
  cases h; rfl
end Go.Proofs.YtnfdepafmmibaaaDoor

/-! Worlds in which nothing that was there is touched, against the machine's; digests as values. Conditions: none. -/
set_option linter.unusedVariables false
set_option linter.unusedSimpArgs false
set_option maxRecDepth 20000
namespace Go.Proofs.YtnfdepafmmibaaaDoor
open Go Go.ChangeShapes Go.WideShapes Go.RowKit

section
variable {X : Cx} {G : Gh} {s : St} {w w' : World}
theorem ext_below (hR : Rel X G s w) (hB : Below w.heap.size w w') : Ext G w G w' where
  os := hB.os
  tape := hB.tape
  output := hB.output
  size := hB.size
  free g hg hf := ⟨hB.block g hg, hf⟩
  bl _ _ _ h := h
  imm g l own hg := by
    have hlt : g < w.heap.size := hR.lt (by rw [hg]; simp)
    exact ⟨l, own, hg, Nat.le_refl _, fun j _ => World.cell?_of_block (hB.block g hlt), fun ho => ⟨hB.block g hlt, ho⟩⟩
  cur d k m l u h := ⟨m, l, u, h, Nat.le_refl _, fun _ => ⟨rfl, rfl⟩⟩
  no d k h := h
theorem rel_below (hR : Rel X G s w) (hB : Below w.heap.size w w') : Rel X G s w' :=
  hR.frame (ext_below hR hB) hR.st rfl rfl (fun d k g h => hB.block g (hR.wr_lt h)) (fun g l own h => ⟨h, hB.block g (hR.lt (by rw [h]; simp))⟩) (fun g hg => hR.free g (Nat.le_trans hB.size hg)) rfl
theorem drel_ini {st : Nat → Stt} {x : DV} {y : Value} (h : DRel st w x y) : DRel (ini w).st w x y := by
  induction h with
  | v h => exact .v h
  | nil => exact .nil
  | list xs hn hg hl hne hc hx ih =>
    rename_i n cells g off c lim own
    have hpos : 0 < cells.length := List.length_pos_iff.2 hne
    have h3 := hc (cells.length - 1) _ (List.getElem?_eq_getElem (by omega))
    obtain ⟨_, s2, s3⟩ := cell_in h3
    simp only at s2 s3
    exact .list xs hn (ini_st s2) (by omega) hne hc ih
theorem glob_ini (hR : Rel X G s w) (g : Nat) : VRel (ini w) w (X.gl g) (.pointer (some ⟨g, 0, none⟩)) := by
  have h := hR.glob g
  rcases X.glOk g with hu | ⟨cs, o, hl⟩
  · rw [hu]; exact .undef
  · rw [hl] at h ⊢
    generalize hv : Value.pointer (some ⟨g, 0, none⟩) = v at h ⊢
    cases h with
    | lptr hne hd => exact .lptr hne (drel_ini hd)
end
/-- A digest as a value. -/
def digV (a : Dig) : Value := .agg (a.val.map fun b : UInt8 => Value.int .u8 (b.toNat : Int)).toArray
theorem vrel_dig {G : Gh} {w : World} (a : Dig) : VRel G w (vd a) (digV a) := by
  refine .agg (fun x hx => ?_) (by simp) (fun j x hj => ?_)
  · simp only [List.mem_toArray, List.mem_map] at hx
    obtain ⟨b, _, rfl⟩ := hx
    rfl
  · rw [List.getElem?_map] at hj
    cases hb : a.val[j]? with
    | none => rw [hb] at hj; cases hj
    | some b =>
      rw [hb] at hj
      simp only [Option.map_some, Option.some.injEq] at hj
      subst hj
      have hlt := (List.getElem?_eq_some_iff.1 hb).1
      have : (a.val.map fun b : UInt8 => Value.int .u8 (b.toNat : Int)).toArray.getD j undef = .int .u8 b.toNat := by
        simp only [Array.getD_eq_getD_getElem?, List.getElem?_toArray, List.getElem?_map, hb, Option.map_some, Option.getD_some]
      rw [this]
      exact .v rfl
theorem vrel_dig_inv {G : Gh} {w : World} {a : Dig} {v : Value} (h : VRel G w (vd a) v) : v = digV a := by
  unfold vd at h
  cases h with
  | agg h1 hs h =>
    rename_i cs
    unfold digV
    congr 1
    apply Array.ext
    · simpa using hs
    · intro j hj1 hj2
      have hlt : j < a.val.length := by simpa using hj2
      have hr := h j (vy a.val[j]) (by rw [List.getElem?_map, List.getElem?_eq_getElem hlt]; rfl)
      rw [Array.getD_eq_getD_getElem?, Array.getElem?_eq_getElem hj1, Option.getD_some] at hr
      generalize cs[j] = q at hr ⊢
      cases hr
      simp
end Go.Proofs.YtnfdepafmmibaaaDoor

