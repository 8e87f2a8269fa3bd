/- The facts of this program's types that the machine asks for | The rules of stepping, bound together. Conditions: none. -/
import Derived.Test.YtnfdepafmmibaaaDoorQ5
/-! The facts of this program's types that the machine asks for. Conditions: none. -/
set_option linter.unusedVariables false
set_option maxRecDepth 100000
namespace Go.Proofs.YtnfdepafmmibaaaDoor
open Go
variable {zb : Bool}

theorem ty3 : tyOf (Y0 zb).P 3 = some (false, 1) := by kernel_rfl
theorem ldp3 (d k off : Nat) (s : St) : aLoad (Y0 zb).P 3 (.ptr d k off) s = (getBlk s d k).bind fun b => b.cells[off]? := by rw [aLoad_ptr _ _ ty3]; rfl
theorem ldl3 (cs : List DV) (off : Nat) (s : St) : aLoad (Y0 zb).P 3 (.lptr cs off) s = (cs[off]?).map DV.av := by rw [aLoad_lptr _ _ ty3]; rfl
theorem st3 (d k off : Nat) (y : AV) (s : St) : aStore (Y0 zb).P 3 (.ptr d k off) y s = y.parts.bind fun ps => (getBlk s d k).bind fun b => if ps.length = 1 ∧ off + 1 ≤ b.cells.length then some (.undef, setBlk s d k { b with cells := setAt b.cells off (ps.map (fit d k b.tk)) }) else none := by exact aStore_ptr _ _ ty3 _ _ _ _ _
theorem ty4 : tyOf (Y0 zb).P 4 = some (false, 1) := by kernel_rfl
theorem ldp4 (d k off : Nat) (s : St) : aLoad (Y0 zb).P 4 (.ptr d k off) s = (getBlk s d k).bind fun b => b.cells[off]? := by rw [aLoad_ptr _ _ ty4]; rfl
theorem ldl4 (cs : List DV) (off : Nat) (s : St) : aLoad (Y0 zb).P 4 (.lptr cs off) s = (cs[off]?).map DV.av := by rw [aLoad_lptr _ _ ty4]; rfl
theorem st4 (d k off : Nat) (y : AV) (s : St) : aStore (Y0 zb).P 4 (.ptr d k off) y s = y.parts.bind fun ps => (getBlk s d k).bind fun b => if ps.length = 1 ∧ off + 1 ≤ b.cells.length then some (.undef, setBlk s d k { b with cells := setAt b.cells off (ps.map (fit d k b.tk)) }) else none := by exact aStore_ptr _ _ ty4 _ _ _ _ _
theorem ty5 : tyOf (Y0 zb).P 5 = some (false, 1) := by kernel_rfl
theorem ldp5 (d k off : Nat) (s : St) : aLoad (Y0 zb).P 5 (.ptr d k off) s = (getBlk s d k).bind fun b => b.cells[off]? := by rw [aLoad_ptr _ _ ty5]; rfl
theorem ldl5 (cs : List DV) (off : Nat) (s : St) : aLoad (Y0 zb).P 5 (.lptr cs off) s = (cs[off]?).map DV.av := by rw [aLoad_lptr _ _ ty5]; rfl
theorem st5 (d k off : Nat) (y : AV) (s : St) : aStore (Y0 zb).P 5 (.ptr d k off) y s = y.parts.bind fun ps => (getBlk s d k).bind fun b => if ps.length = 1 ∧ off + 1 ≤ b.cells.length then some (.undef, setBlk s d k { b with cells := setAt b.cells off (ps.map (fit d k b.tk)) }) else none := by exact aStore_ptr _ _ ty5 _ _ _ _ _
theorem ty9 : tyOf (Y0 zb).P 9 = some (false, 1) := by kernel_rfl
theorem ldp9 (d k off : Nat) (s : St) : aLoad (Y0 zb).P 9 (.ptr d k off) s = (getBlk s d k).bind fun b => b.cells[off]? := by rw [aLoad_ptr _ _ ty9]; rfl
theorem ldl9 (cs : List DV) (off : Nat) (s : St) : aLoad (Y0 zb).P 9 (.lptr cs off) s = (cs[off]?).map DV.av := by rw [aLoad_lptr _ _ ty9]; rfl
theorem st9 (d k off : Nat) (y : AV) (s : St) : aStore (Y0 zb).P 9 (.ptr d k off) y s = y.parts.bind fun ps => (getBlk s d k).bind fun b => if ps.length = 1 ∧ off + 1 ≤ b.cells.length then some (.undef, setBlk s d k { b with cells := setAt b.cells off (ps.map (fit d k b.tk)) }) else none := by exact aStore_ptr _ _ ty9 _ _ _ _ _
theorem ty22 : tyOf (Y0 zb).P 22 = some (false, 1) := by kernel_rfl
theorem ldp22 (d k off : Nat) (s : St) : aLoad (Y0 zb).P 22 (.ptr d k off) s = (getBlk s d k).bind fun b => b.cells[off]? := by rw [aLoad_ptr _ _ ty22]; rfl
theorem ldl22 (cs : List DV) (off : Nat) (s : St) : aLoad (Y0 zb).P 22 (.lptr cs off) s = (cs[off]?).map DV.av := by rw [aLoad_lptr _ _ ty22]; rfl
theorem st22 (d k off : Nat) (y : AV) (s : St) : aStore (Y0 zb).P 22 (.ptr d k off) y s = y.parts.bind fun ps => (getBlk s d k).bind fun b => if ps.length = 1 ∧ off + 1 ≤ b.cells.length then some (.undef, setBlk s d k { b with cells := setAt b.cells off (ps.map (fit d k b.tk)) }) else none := by exact aStore_ptr _ _ ty22 _ _ _ _ _
theorem ty24 : tyOf (Y0 zb).P 24 = some (false, 1) := by kernel_rfl
theorem ldp24 (d k off : Nat) (s : St) : aLoad (Y0 zb).P 24 (.ptr d k off) s = (getBlk s d k).bind fun b => b.cells[off]? := by rw [aLoad_ptr _ _ ty24]; rfl
theorem ldl24 (cs : List DV) (off : Nat) (s : St) : aLoad (Y0 zb).P 24 (.lptr cs off) s = (cs[off]?).map DV.av := by rw [aLoad_lptr _ _ ty24]; rfl
theorem st24 (d k off : Nat) (y : AV) (s : St) : aStore (Y0 zb).P 24 (.ptr d k off) y s = y.parts.bind fun ps => (getBlk s d k).bind fun b => if ps.length = 1 ∧ off + 1 ≤ b.cells.length then some (.undef, setBlk s d k { b with cells := setAt b.cells off (ps.map (fit d k b.tk)) }) else none := by exact aStore_ptr _ _ ty24 _ _ _ _ _
theorem ty28 : tyOf (Y0 zb).P 28 = some (true, 2) := by kernel_rfl
theorem ldp28 (d k off : Nat) (s : St) : aLoad (Y0 zb).P 28 (.ptr d k off) s = (getBlk s d k).bind fun b => if off + 2 ≤ b.cells.length then some (.agg ((b.cells.drop off).take 2)) else none := by rw [aLoad_ptr _ _ ty28]; rfl
theorem ldl28 (cs : List DV) (off : Nat) (s : St) : aLoad (Y0 zb).P 28 (.lptr cs off) s = if off + 2 ≤ cs.length then some (.agg (((cs.drop off).take 2).map DV.av)) else none := by rw [aLoad_lptr _ _ ty28]; rfl
theorem st28 (d k off : Nat) (y : AV) (s : St) : aStore (Y0 zb).P 28 (.ptr d k off) y s = y.parts.bind fun ps => (getBlk s d k).bind fun b => if ps.length = 2 ∧ off + 2 ≤ b.cells.length then some (.undef, setBlk s d k { b with cells := setAt b.cells off (ps.map (fit d k b.tk)) }) else none := by exact aStore_ptr _ _ ty28 _ _ _ _ _
theorem ty31 : tyOf (Y0 zb).P 31 = some (true, 16) := by kernel_rfl
theorem ldp31 (d k off : Nat) (s : St) : aLoad (Y0 zb).P 31 (.ptr d k off) s = (getBlk s d k).bind fun b => if off + 16 ≤ b.cells.length then some (.agg ((b.cells.drop off).take 16)) else none := by rw [aLoad_ptr _ _ ty31]; rfl
theorem ldl31 (cs : List DV) (off : Nat) (s : St) : aLoad (Y0 zb).P 31 (.lptr cs off) s = if off + 16 ≤ cs.length then some (.agg (((cs.drop off).take 16).map DV.av)) else none := by rw [aLoad_lptr _ _ ty31]; rfl
theorem st31 (d k off : Nat) (y : AV) (s : St) : aStore (Y0 zb).P 31 (.ptr d k off) y s = y.parts.bind fun ps => (getBlk s d k).bind fun b => if ps.length = 16 ∧ off + 16 ≤ b.cells.length then some (.undef, setBlk s d k { b with cells := setAt b.cells off (ps.map (fit d k b.tk)) }) else none := by exact aStore_ptr _ _ ty31 _ _ _ _ _
theorem ty42 : tyOf (Y0 zb).P 42 = some (false, 1) := by kernel_rfl
theorem ldp42 (d k off : Nat) (s : St) : aLoad (Y0 zb).P 42 (.ptr d k off) s = (getBlk s d k).bind fun b => b.cells[off]? := by rw [aLoad_ptr _ _ ty42]; rfl
theorem ldl42 (cs : List DV) (off : Nat) (s : St) : aLoad (Y0 zb).P 42 (.lptr cs off) s = (cs[off]?).map DV.av := by rw [aLoad_lptr _ _ ty42]; rfl
theorem st42 (d k off : Nat) (y : AV) (s : St) : aStore (Y0 zb).P 42 (.ptr d k off) y s = y.parts.bind fun ps => (getBlk s d k).bind fun b => if ps.length = 1 ∧ off + 1 ≤ b.cells.length then some (.undef, setBlk s d k { b with cells := setAt b.cells off (ps.map (fit d k b.tk)) }) else none := by exact aStore_ptr _ _ ty42 _ _ _ _ _
theorem ty48 : tyOf (Y0 zb).P 48 = some (true, 32) := by kernel_rfl
theorem ldp48 (d k off : Nat) (s : St) : aLoad (Y0 zb).P 48 (.ptr d k off) s = (getBlk s d k).bind fun b => if off + 32 ≤ b.cells.length then some (.agg ((b.cells.drop off).take 32)) else none := by rw [aLoad_ptr _ _ ty48]; rfl
theorem ldl48 (cs : List DV) (off : Nat) (s : St) : aLoad (Y0 zb).P 48 (.lptr cs off) s = if off + 32 ≤ cs.length then some (.agg (((cs.drop off).take 32).map DV.av)) else none := by rw [aLoad_lptr _ _ ty48]; rfl
theorem st48 (d k off : Nat) (y : AV) (s : St) : aStore (Y0 zb).P 48 (.ptr d k off) y s = y.parts.bind fun ps => (getBlk s d k).bind fun b => if ps.length = 32 ∧ off + 32 ≤ b.cells.length then some (.undef, setBlk s d k { b with cells := setAt b.cells off (ps.map (fit d k b.tk)) }) else none := by exact aStore_ptr _ _ ty48 _ _ _ _ _
theorem ty51 : tyOf (Y0 zb).P 51 = some (true, 2) := by kernel_rfl
theorem ldp51 (d k off : Nat) (s : St) : aLoad (Y0 zb).P 51 (.ptr d k off) s = (getBlk s d k).bind fun b => if off + 2 ≤ b.cells.length then some (.agg ((b.cells.drop off).take 2)) else none := by rw [aLoad_ptr _ _ ty51]; rfl
theorem ldl51 (cs : List DV) (off : Nat) (s : St) : aLoad (Y0 zb).P 51 (.lptr cs off) s = if off + 2 ≤ cs.length then some (.agg (((cs.drop off).take 2).map DV.av)) else none := by rw [aLoad_lptr _ _ ty51]; rfl
theorem st51 (d k off : Nat) (y : AV) (s : St) : aStore (Y0 zb).P 51 (.ptr d k off) y s = y.parts.bind fun ps => (getBlk s d k).bind fun b => if ps.length = 2 ∧ off + 2 ≤ b.cells.length then some (.undef, setBlk s d k { b with cells := setAt b.cells off (ps.map (fit d k b.tk)) }) else none := by exact aStore_ptr _ _ ty51 _ _ _ _ _
theorem ty57 : tyOf (Y0 zb).P 57 = some (true, 3) := by kernel_rfl
theorem ldp57 (d k off : Nat) (s : St) : aLoad (Y0 zb).P 57 (.ptr d k off) s = (getBlk s d k).bind fun b => if off + 3 ≤ b.cells.length then some (.agg ((b.cells.drop off).take 3)) else none := by rw [aLoad_ptr _ _ ty57]; rfl
theorem ldl57 (cs : List DV) (off : Nat) (s : St) : aLoad (Y0 zb).P 57 (.lptr cs off) s = if off + 3 ≤ cs.length then some (.agg (((cs.drop off).take 3).map DV.av)) else none := by rw [aLoad_lptr _ _ ty57]; rfl
theorem st57 (d k off : Nat) (y : AV) (s : St) : aStore (Y0 zb).P 57 (.ptr d k off) y s = y.parts.bind fun ps => (getBlk s d k).bind fun b => if ps.length = 3 ∧ off + 3 ≤ b.cells.length then some (.undef, setBlk s d k { b with cells := setAt b.cells off (ps.map (fit d k b.tk)) }) else none := by exact aStore_ptr _ _ ty57 _ _ _ _ _
theorem ty60 : tyOf (Y0 zb).P 60 = some (true, 17) := by kernel_rfl
theorem ldp60 (d k off : Nat) (s : St) : aLoad (Y0 zb).P 60 (.ptr d k off) s = (getBlk s d k).bind fun b => if off + 17 ≤ b.cells.length then some (.agg ((b.cells.drop off).take 17)) else none := by rw [aLoad_ptr _ _ ty60]; rfl
theorem ldl60 (cs : List DV) (off : Nat) (s : St) : aLoad (Y0 zb).P 60 (.lptr cs off) s = if off + 17 ≤ cs.length then some (.agg (((cs.drop off).take 17).map DV.av)) else none := by rw [aLoad_lptr _ _ ty60]; rfl
theorem st60 (d k off : Nat) (y : AV) (s : St) : aStore (Y0 zb).P 60 (.ptr d k off) y s = y.parts.bind fun ps => (getBlk s d k).bind fun b => if ps.length = 17 ∧ off + 17 ≤ b.cells.length then some (.undef, setBlk s d k { b with cells := setAt b.cells off (ps.map (fit d k b.tk)) }) else none := by exact aStore_ptr _ _ ty60 _ _ _ _ _
theorem ty64 : tyOf (Y0 zb).P 64 = some (false, 1) := by kernel_rfl
theorem ldp64 (d k off : Nat) (s : St) : aLoad (Y0 zb).P 64 (.ptr d k off) s = (getBlk s d k).bind fun b => b.cells[off]? := by rw [aLoad_ptr _ _ ty64]; rfl
theorem ldl64 (cs : List DV) (off : Nat) (s : St) : aLoad (Y0 zb).P 64 (.lptr cs off) s = (cs[off]?).map DV.av := by rw [aLoad_lptr _ _ ty64]; rfl
theorem st64 (d k off : Nat) (y : AV) (s : St) : aStore (Y0 zb).P 64 (.ptr d k off) y s = y.parts.bind fun ps => (getBlk s d k).bind fun b => if ps.length = 1 ∧ off + 1 ≤ b.cells.length then some (.undef, setBlk s d k { b with cells := setAt b.cells off (ps.map (fit d k b.tk)) }) else none := by exact aStore_ptr _ _ ty64 _ _ _ _ _
theorem ty66 : tyOf (Y0 zb).P 66 = some (false, 1) := by kernel_rfl
theorem ldp66 (d k off : Nat) (s : St) : aLoad (Y0 zb).P 66 (.ptr d k off) s = (getBlk s d k).bind fun b => b.cells[off]? := by rw [aLoad_ptr _ _ ty66]; rfl
theorem ldl66 (cs : List DV) (off : Nat) (s : St) : aLoad (Y0 zb).P 66 (.lptr cs off) s = (cs[off]?).map DV.av := by rw [aLoad_lptr _ _ ty66]; rfl
theorem st66 (d k off : Nat) (y : AV) (s : St) : aStore (Y0 zb).P 66 (.ptr d k off) y s = y.parts.bind fun ps => (getBlk s d k).bind fun b => if ps.length = 1 ∧ off + 1 ≤ b.cells.length then some (.undef, setBlk s d k { b with cells := setAt b.cells off (ps.map (fit d k b.tk)) }) else none := by exact aStore_ptr _ _ ty66 _ _ _ _ _
theorem ty75 : tyOf (Y0 zb).P 75 = some (false, 1) := by kernel_rfl
theorem ldp75 (d k off : Nat) (s : St) : aLoad (Y0 zb).P 75 (.ptr d k off) s = (getBlk s d k).bind fun b => b.cells[off]? := by rw [aLoad_ptr _ _ ty75]; rfl
theorem ldl75 (cs : List DV) (off : Nat) (s : St) : aLoad (Y0 zb).P 75 (.lptr cs off) s = (cs[off]?).map DV.av := by rw [aLoad_lptr _ _ ty75]; rfl
theorem st75 (d k off : Nat) (y : AV) (s : St) : aStore (Y0 zb).P 75 (.ptr d k off) y s = y.parts.bind fun ps => (getBlk s d k).bind fun b => if ps.length = 1 ∧ off + 1 ≤ b.cells.length then some (.undef, setBlk s d k { b with cells := setAt b.cells off (ps.map (fit d k b.tk)) }) else none := by exact aStore_ptr _ _ ty75 _ _ _ _ _
theorem ty79 : tyOf (Y0 zb).P 79 = some (false, 1) := by kernel_rfl
theorem ldp79 (d k off : Nat) (s : St) : aLoad (Y0 zb).P 79 (.ptr d k off) s = (getBlk s d k).bind fun b => b.cells[off]? := by rw [aLoad_ptr _ _ ty79]; rfl
theorem ldl79 (cs : List DV) (off : Nat) (s : St) : aLoad (Y0 zb).P 79 (.lptr cs off) s = (cs[off]?).map DV.av := by rw [aLoad_lptr _ _ ty79]; rfl
theorem st79 (d k off : Nat) (y : AV) (s : St) : aStore (Y0 zb).P 79 (.ptr d k off) y s = y.parts.bind fun ps => (getBlk s d k).bind fun b => if ps.length = 1 ∧ off + 1 ≤ b.cells.length then some (.undef, setBlk s d k { b with cells := setAt b.cells off (ps.map (fit d k b.tk)) }) else none := by exact aStore_ptr _ _ ty79 _ _ _ _ _
theorem ty81 : tyOf (Y0 zb).P 81 = some (true, 2) := by kernel_rfl
theorem ldp81 (d k off : Nat) (s : St) : aLoad (Y0 zb).P 81 (.ptr d k off) s = (getBlk s d k).bind fun b => if off + 2 ≤ b.cells.length then some (.agg ((b.cells.drop off).take 2)) else none := by rw [aLoad_ptr _ _ ty81]; rfl
theorem ldl81 (cs : List DV) (off : Nat) (s : St) : aLoad (Y0 zb).P 81 (.lptr cs off) s = if off + 2 ≤ cs.length then some (.agg (((cs.drop off).take 2).map DV.av)) else none := by rw [aLoad_lptr _ _ ty81]; rfl
theorem st81 (d k off : Nat) (y : AV) (s : St) : aStore (Y0 zb).P 81 (.ptr d k off) y s = y.parts.bind fun ps => (getBlk s d k).bind fun b => if ps.length = 2 ∧ off + 2 ≤ b.cells.length then some (.undef, setBlk s d k { b with cells := setAt b.cells off (ps.map (fit d k b.tk)) }) else none := by exact aStore_ptr _ _ ty81 _ _ _ _ _
theorem ty84 : tyOf (Y0 zb).P 84 = some (false, 1) := by kernel_rfl
theorem ldp84 (d k off : Nat) (s : St) : aLoad (Y0 zb).P 84 (.ptr d k off) s = (getBlk s d k).bind fun b => b.cells[off]? := by rw [aLoad_ptr _ _ ty84]; rfl
theorem ldl84 (cs : List DV) (off : Nat) (s : St) : aLoad (Y0 zb).P 84 (.lptr cs off) s = (cs[off]?).map DV.av := by rw [aLoad_lptr _ _ ty84]; rfl
theorem st84 (d k off : Nat) (y : AV) (s : St) : aStore (Y0 zb).P 84 (.ptr d k off) y s = y.parts.bind fun ps => (getBlk s d k).bind fun b => if ps.length = 1 ∧ off + 1 ≤ b.cells.length then some (.undef, setBlk s d k { b with cells := setAt b.cells off (ps.map (fit d k b.tk)) }) else none := by exact aStore_ptr _ _ ty84 _ _ _ _ _
theorem ty86 : tyOf (Y0 zb).P 86 = some (true, 19) := by kernel_rfl
theorem ldp86 (d k off : Nat) (s : St) : aLoad (Y0 zb).P 86 (.ptr d k off) s = (getBlk s d k).bind fun b => if off + 19 ≤ b.cells.length then some (.agg ((b.cells.drop off).take 19)) else none := by rw [aLoad_ptr _ _ ty86]; rfl
theorem ldl86 (cs : List DV) (off : Nat) (s : St) : aLoad (Y0 zb).P 86 (.lptr cs off) s = if off + 19 ≤ cs.length then some (.agg (((cs.drop off).take 19).map DV.av)) else none := by rw [aLoad_lptr _ _ ty86]; rfl
theorem st86 (d k off : Nat) (y : AV) (s : St) : aStore (Y0 zb).P 86 (.ptr d k off) y s = y.parts.bind fun ps => (getBlk s d k).bind fun b => if ps.length = 19 ∧ off + 19 ≤ b.cells.length then some (.undef, setBlk s d k { b with cells := setAt b.cells off (ps.map (fit d k b.tk)) }) else none := by exact aStore_ptr _ _ ty86 _ _ _ _ _
theorem ty88 : tyOf (Y0 zb).P 88 = some (false, 1) := by kernel_rfl
theorem ldp88 (d k off : Nat) (s : St) : aLoad (Y0 zb).P 88 (.ptr d k off) s = (getBlk s d k).bind fun b => b.cells[off]? := by rw [aLoad_ptr _ _ ty88]; rfl
theorem ldl88 (cs : List DV) (off : Nat) (s : St) : aLoad (Y0 zb).P 88 (.lptr cs off) s = (cs[off]?).map DV.av := by rw [aLoad_lptr _ _ ty88]; rfl
theorem st88 (d k off : Nat) (y : AV) (s : St) : aStore (Y0 zb).P 88 (.ptr d k off) y s = y.parts.bind fun ps => (getBlk s d k).bind fun b => if ps.length = 1 ∧ off + 1 ≤ b.cells.length then some (.undef, setBlk s d k { b with cells := setAt b.cells off (ps.map (fit d k b.tk)) }) else none := by exact aStore_ptr _ _ ty88 _ _ _ _ _
theorem ty89 : tyOf (Y0 zb).P 89 = some (false, 1) := by kernel_rfl
theorem ldp89 (d k off : Nat) (s : St) : aLoad (Y0 zb).P 89 (.ptr d k off) s = (getBlk s d k).bind fun b => b.cells[off]? := by rw [aLoad_ptr _ _ ty89]; rfl
theorem ldl89 (cs : List DV) (off : Nat) (s : St) : aLoad (Y0 zb).P 89 (.lptr cs off) s = (cs[off]?).map DV.av := by rw [aLoad_lptr _ _ ty89]; rfl
theorem st89 (d k off : Nat) (y : AV) (s : St) : aStore (Y0 zb).P 89 (.ptr d k off) y s = y.parts.bind fun ps => (getBlk s d k).bind fun b => if ps.length = 1 ∧ off + 1 ≤ b.cells.length then some (.undef, setBlk s d k { b with cells := setAt b.cells off (ps.map (fit d k b.tk)) }) else none := by exact aStore_ptr _ _ ty89 _ _ _ _ _
theorem ty100 : tyOf (Y0 zb).P 100 = some (false, 1) := by kernel_rfl
theorem ldp100 (d k off : Nat) (s : St) : aLoad (Y0 zb).P 100 (.ptr d k off) s = (getBlk s d k).bind fun b => b.cells[off]? := by rw [aLoad_ptr _ _ ty100]; rfl
theorem ldl100 (cs : List DV) (off : Nat) (s : St) : aLoad (Y0 zb).P 100 (.lptr cs off) s = (cs[off]?).map DV.av := by rw [aLoad_lptr _ _ ty100]; rfl
theorem st100 (d k off : Nat) (y : AV) (s : St) : aStore (Y0 zb).P 100 (.ptr d k off) y s = y.parts.bind fun ps => (getBlk s d k).bind fun b => if ps.length = 1 ∧ off + 1 ≤ b.cells.length then some (.undef, setBlk s d k { b with cells := setAt b.cells off (ps.map (fit d k b.tk)) }) else none := by exact aStore_ptr _ _ ty100 _ _ _ _ _
theorem ty101 : tyOf (Y0 zb).P 101 = some (true, 8) := by kernel_rfl
theorem ldp101 (d k off : Nat) (s : St) : aLoad (Y0 zb).P 101 (.ptr d k off) s = (getBlk s d k).bind fun b => if off + 8 ≤ b.cells.length then some (.agg ((b.cells.drop off).take 8)) else none := by rw [aLoad_ptr _ _ ty101]; rfl
theorem ldl101 (cs : List DV) (off : Nat) (s : St) : aLoad (Y0 zb).P 101 (.lptr cs off) s = if off + 8 ≤ cs.length then some (.agg (((cs.drop off).take 8).map DV.av)) else none := by rw [aLoad_lptr _ _ ty101]; rfl
theorem st101 (d k off : Nat) (y : AV) (s : St) : aStore (Y0 zb).P 101 (.ptr d k off) y s = y.parts.bind fun ps => (getBlk s d k).bind fun b => if ps.length = 8 ∧ off + 8 ≤ b.cells.length then some (.undef, setBlk s d k { b with cells := setAt b.cells off (ps.map (fit d k b.tk)) }) else none := by exact aStore_ptr _ _ ty101 _ _ _ _ _
theorem ty104 : tyOf (Y0 zb).P 104 = some (true, 73) := by kernel_rfl
theorem ldp104 (d k off : Nat) (s : St) : aLoad (Y0 zb).P 104 (.ptr d k off) s = (getBlk s d k).bind fun b => if off + 73 ≤ b.cells.length then some (.agg ((b.cells.drop off).take 73)) else none := by rw [aLoad_ptr _ _ ty104]; rfl
theorem ldl104 (cs : List DV) (off : Nat) (s : St) : aLoad (Y0 zb).P 104 (.lptr cs off) s = if off + 73 ≤ cs.length then some (.agg (((cs.drop off).take 73).map DV.av)) else none := by rw [aLoad_lptr _ _ ty104]; rfl
theorem st104 (d k off : Nat) (y : AV) (s : St) : aStore (Y0 zb).P 104 (.ptr d k off) y s = y.parts.bind fun ps => (getBlk s d k).bind fun b => if ps.length = 73 ∧ off + 73 ≤ b.cells.length then some (.undef, setBlk s d k { b with cells := setAt b.cells off (ps.map (fit d k b.tk)) }) else none := by exact aStore_ptr _ _ ty104 _ _ _ _ _
theorem ty108 : tyOf (Y0 zb).P 108 = some (true, 32) := by kernel_rfl
theorem ldp108 (d k off : Nat) (s : St) : aLoad (Y0 zb).P 108 (.ptr d k off) s = (getBlk s d k).bind fun b => if off + 32 ≤ b.cells.length then some (.agg ((b.cells.drop off).take 32)) else none := by rw [aLoad_ptr _ _ ty108]; rfl
theorem ldl108 (cs : List DV) (off : Nat) (s : St) : aLoad (Y0 zb).P 108 (.lptr cs off) s = if off + 32 ≤ cs.length then some (.agg (((cs.drop off).take 32).map DV.av)) else none := by rw [aLoad_lptr _ _ ty108]; rfl
theorem st108 (d k off : Nat) (y : AV) (s : St) : aStore (Y0 zb).P 108 (.ptr d k off) y s = y.parts.bind fun ps => (getBlk s d k).bind fun b => if ps.length = 32 ∧ off + 32 ≤ b.cells.length then some (.undef, setBlk s d k { b with cells := setAt b.cells off (ps.map (fit d k b.tk)) }) else none := by exact aStore_ptr _ _ ty108 _ _ _ _ _
theorem ty123 : tyOf (Y0 zb).P 123 = some (true, 64) := by kernel_rfl
theorem ldp123 (d k off : Nat) (s : St) : aLoad (Y0 zb).P 123 (.ptr d k off) s = (getBlk s d k).bind fun b => if off + 64 ≤ b.cells.length then some (.agg ((b.cells.drop off).take 64)) else none := by rw [aLoad_ptr _ _ ty123]; rfl
theorem ldl123 (cs : List DV) (off : Nat) (s : St) : aLoad (Y0 zb).P 123 (.lptr cs off) s = if off + 64 ≤ cs.length then some (.agg (((cs.drop off).take 64).map DV.av)) else none := by rw [aLoad_lptr _ _ ty123]; rfl
theorem st123 (d k off : Nat) (y : AV) (s : St) : aStore (Y0 zb).P 123 (.ptr d k off) y s = y.parts.bind fun ps => (getBlk s d k).bind fun b => if ps.length = 64 ∧ off + 64 ≤ b.cells.length then some (.undef, setBlk s d k { b with cells := setAt b.cells off (ps.map (fit d k b.tk)) }) else none := by exact aStore_ptr _ _ ty123 _ _ _ _ _
theorem ty125 : tyOf (Y0 zb).P 125 = some (true, 4) := by kernel_rfl
theorem ldp125 (d k off : Nat) (s : St) : aLoad (Y0 zb).P 125 (.ptr d k off) s = (getBlk s d k).bind fun b => if off + 4 ≤ b.cells.length then some (.agg ((b.cells.drop off).take 4)) else none := by rw [aLoad_ptr _ _ ty125]; rfl
theorem ldl125 (cs : List DV) (off : Nat) (s : St) : aLoad (Y0 zb).P 125 (.lptr cs off) s = if off + 4 ≤ cs.length then some (.agg (((cs.drop off).take 4).map DV.av)) else none := by rw [aLoad_lptr _ _ ty125]; rfl
theorem st125 (d k off : Nat) (y : AV) (s : St) : aStore (Y0 zb).P 125 (.ptr d k off) y s = y.parts.bind fun ps => (getBlk s d k).bind fun b => if ps.length = 4 ∧ off + 4 ≤ b.cells.length then some (.undef, setBlk s d k { b with cells := setAt b.cells off (ps.map (fit d k b.tk)) }) else none := by exact aStore_ptr _ _ ty125 _ _ _ _ _
theorem z4 : zCells (Y0 zb).P 4 = some ([.v (.bool false)]) := by kernel_rfl
theorem al4 (s : St) : aAlloc (Y0 zb).P 4 s = newBlk 4 ([.v (.bool false)]) s := by unfold aAlloc; rw [z4]
theorem z22 : zCells (Y0 zb).P 22 = some ([.list .full 0 []]) := by kernel_rfl
theorem al22 (s : St) : aAlloc (Y0 zb).P 22 s = newBlk 22 ([.list .full 0 []]) s := by unfold aAlloc; rw [z22]
theorem z28 : zCells (Y0 zb).P 28 = some ([.list .full 0 [], .v (.int .i64 0)]) := by kernel_rfl
theorem al28 (s : St) : aAlloc (Y0 zb).P 28 s = newBlk 28 ([.list .full 0 [], .v (.int .i64 0)]) s := by unfold aAlloc; rw [z28]
theorem z31 : zCells (Y0 zb).P 31 = some (List.replicate 16 (.v (.int .u8 0))) := by kernel_rfl
theorem al31 (s : St) : aAlloc (Y0 zb).P 31 s = newBlk 31 (List.replicate 16 (.v (.int .u8 0))) s := by unfold aAlloc; rw [z31]
theorem z48 : zCells (Y0 zb).P 48 = some (List.replicate 16 (.v (.int .u8 0)) ++ List.replicate 16 (.v (.int .u8 0))) := by kernel_rfl
theorem al48 (s : St) : aAlloc (Y0 zb).P 48 s = newBlk 48 (List.replicate 16 (.v (.int .u8 0)) ++ List.replicate 16 (.v (.int .u8 0))) s := by unfold aAlloc; rw [z48]
theorem z51 : zCells (Y0 zb).P 51 = some ([.v (.int .i64 0), .list .full 0 []]) := by kernel_rfl
theorem al51 (s : St) : aAlloc (Y0 zb).P 51 s = newBlk 51 ([.v (.int .i64 0), .list .full 0 []]) s := by unfold aAlloc; rw [z51]
theorem z57 : zCells (Y0 zb).P 57 = some ([.v (.int .i64 0), .list .full 0 [], .v (.int .i64 0)]) := by kernel_rfl
theorem al57 (s : St) : aAlloc (Y0 zb).P 57 s = newBlk 57 ([.v (.int .i64 0), .list .full 0 [], .v (.int .i64 0)]) s := by unfold aAlloc; rw [z57]
theorem z60 : zCells (Y0 zb).P 60 = some (List.replicate 16 (.v (.int .u8 0)) ++ [.v (.int .i64 0)]) := by kernel_rfl
theorem al60 (s : St) : aAlloc (Y0 zb).P 60 s = newBlk 60 (List.replicate 16 (.v (.int .u8 0)) ++ [.v (.int .i64 0)]) s := by unfold aAlloc; rw [z60]
theorem z64 : zCells (Y0 zb).P 64 = some ([.v .nilFunc]) := by kernel_rfl
theorem al64 (s : St) : aAlloc (Y0 zb).P 64 s = newBlk 64 ([.v .nilFunc]) s := by unfold aAlloc; rw [z64]
theorem z66 : zCells (Y0 zb).P 66 = some ([.v .nilFunc]) := by kernel_rfl
theorem al66 (s : St) : aAlloc (Y0 zb).P 66 s = newBlk 66 ([.v .nilFunc]) s := by unfold aAlloc; rw [z66]
theorem z75 : zCells (Y0 zb).P 75 = some ([.v .nilFunc]) := by kernel_rfl
theorem al75 (s : St) : aAlloc (Y0 zb).P 75 s = newBlk 75 ([.v .nilFunc]) s := by unfold aAlloc; rw [z75]
theorem z79 : zCells (Y0 zb).P 79 = some ([.v (.pointer none)]) := by kernel_rfl
theorem al79 (s : St) : aAlloc (Y0 zb).P 79 s = newBlk 79 ([.v (.pointer none)]) s := by unfold aAlloc; rw [z79]
theorem z84 : zCells (Y0 zb).P 84 = some ([.v .nilFunc]) := by kernel_rfl
theorem al84 (s : St) : aAlloc (Y0 zb).P 84 s = newBlk 84 ([.v .nilFunc]) s := by unfold aAlloc; rw [z84]
theorem z86 : zCells (Y0 zb).P 86 = some (List.replicate 16 (.v (.int .u8 0)) ++ [.v (.int .i64 0), .v (.int .i64 0), .v (.bool false)]) := by kernel_rfl
theorem al86 (s : St) : aAlloc (Y0 zb).P 86 s = newBlk 86 (List.replicate 16 (.v (.int .u8 0)) ++ [.v (.int .i64 0), .v (.int .i64 0), .v (.bool false)]) s := by unfold aAlloc; rw [z86]
theorem z88 : zCells (Y0 zb).P 88 = some ([.v .nilFunc]) := by kernel_rfl
theorem al88 (s : St) : aAlloc (Y0 zb).P 88 s = newBlk 88 ([.v .nilFunc]) s := by unfold aAlloc; rw [z88]
theorem z89 : zCells (Y0 zb).P 89 = some ([.v .nilFunc]) := by kernel_rfl
theorem al89 (s : St) : aAlloc (Y0 zb).P 89 s = newBlk 89 ([.v .nilFunc]) s := by unfold aAlloc; rw [z89]
theorem z101 : zCells (Y0 zb).P 101 = some (List.replicate 8 (.v (.int .u32 0))) := by kernel_rfl
theorem al101 (s : St) : aAlloc (Y0 zb).P 101 s = newBlk 101 (List.replicate 8 (.v (.int .u32 0))) s := by unfold aAlloc; rw [z101]
theorem z104 : zCells (Y0 zb).P 104 = some (List.replicate 8 (.v (.int .u32 0)) ++ List.replicate 64 (.v (.int .u8 0)) ++ [.v (.int .u64 0)]) := by kernel_rfl
theorem al104 (s : St) : aAlloc (Y0 zb).P 104 s = newBlk 104 (List.replicate 8 (.v (.int .u32 0)) ++ List.replicate 64 (.v (.int .u8 0)) ++ [.v (.int .u64 0)]) s := by unfold aAlloc; rw [z104]
theorem z108 : zCells (Y0 zb).P 108 = some (List.replicate 32 (.v (.int .u8 0))) := by kernel_rfl
theorem al108 (s : St) : aAlloc (Y0 zb).P 108 s = newBlk 108 (List.replicate 32 (.v (.int .u8 0))) s := by unfold aAlloc; rw [z108]
theorem z123 : zCells (Y0 zb).P 123 = some (List.replicate 64 (.v (.int .u32 0))) := by kernel_rfl
theorem al123 (s : St) : aAlloc (Y0 zb).P 123 s = newBlk 123 (List.replicate 64 (.v (.int .u32 0))) s := by unfold aAlloc; rw [z123]
theorem z125 : zCells (Y0 zb).P 125 = some ([.v (.int .u32 0), .v (.int .u32 0), .v (.int .u32 0), .v (.int .u32 0)]) := by kernel_rfl
theorem al125 (s : St) : aAlloc (Y0 zb).P 125 s = newBlk 125 ([.v (.int .u32 0), .v (.int .u32 0), .v (.int .u32 0), .v (.int .u32 0)]) s := by unfold aAlloc; rw [z125]
theorem U22 : (Y0 zb).P.underlying 22 = some (.slice 31) := by kernel_rfl
theorem C31 : (Y0 zb).P.cellsOf 31 = 16 := by kernel_rfl
theorem Bt31 : (Y0 zb).P.bytesOf 31 = 16 := by kernel_rfl
theorem ial22 (tag : Tag) (n : Nat) (cs : List DV) (k : IntKind) (i : Int) (h0 : 0 ≤ i) (h1 : i < n) (hl : cs.length = n * 16) : aIndexAddr (Y0 zb).P 22 (.list tag n cs) (.v (.int k i)) = some (.lptr cs (i.toNat * 16)) := by exact ia_list U22 C31 (by decide) _ _ _ _ _ h0 h1 hl
theorem iam22 (d k off n cap : Nat) (q : IntKind) (i : Int) (h0 : 0 ≤ i) (h1 : i < n) : aIndexAddr (Y0 zb).P 22 (.msl d k off n cap) (.v (.int q i)) = some (.ptr d k (off + i.toNat * 16)) := by exact ia_msl U22 C31 (by decide) _ _ _ _ _ _ _ h0 h1
theorem U31 : (Y0 zb).P.underlying 31 = some (.array 16 5) := by kernel_rfl
theorem C5 : (Y0 zb).P.cellsOf 5 = 1 := by kernel_rfl
theorem Bt5 : (Y0 zb).P.bytesOf 5 = 1 := by kernel_rfl
theorem iap31 (d k off : Nat) (q : IntKind) (i : Int) (h0 : 0 ≤ i) (h1 : i < 16) : aIndexAddr (Y0 zb).P 31 (.ptr d k off) (.v (.int q i)) = some (.ptr d k (off + i.toNat * 1)) := by exact ia_arr U31 C5 (by decide) _ _ _ _ _ h0 h1
theorem iaq31 (cs : List DV) (off : Nat) (q : IntKind) (i : Int) (h0 : 0 ≤ i) (h1 : i < 16) : aIndexAddr (Y0 zb).P 31 (.lptr cs off) (.v (.int q i)) = some (.lptr cs (off + i.toNat * 1)) := by exact ia_larr U31 C5 (by decide) _ _ _ _ h0 h1
theorem U37 : (Y0 zb).P.underlying 37 = some (.slice 3) := by kernel_rfl
theorem C3 : (Y0 zb).P.cellsOf 3 = 1 := by kernel_rfl
theorem Bt3 : (Y0 zb).P.bytesOf 3 = 8 := by kernel_rfl
theorem ial37 (tag : Tag) (n : Nat) (cs : List DV) (k : IntKind) (i : Int) (h0 : 0 ≤ i) (h1 : i < n) (hl : cs.length = n * 1) : aIndexAddr (Y0 zb).P 37 (.list tag n cs) (.v (.int k i)) = some (.lptr cs (i.toNat * 1)) := by exact ia_list U37 C3 (by decide) _ _ _ _ _ h0 h1 hl
theorem iam37 (d k off n cap : Nat) (q : IntKind) (i : Int) (h0 : 0 ≤ i) (h1 : i < n) : aIndexAddr (Y0 zb).P 37 (.msl d k off n cap) (.v (.int q i)) = some (.ptr d k (off + i.toNat * 1)) := by exact ia_msl U37 C3 (by decide) _ _ _ _ _ _ _ h0 h1
theorem U46 : (Y0 zb).P.underlying 46 = some (.slice 48) := by kernel_rfl
theorem C48 : (Y0 zb).P.cellsOf 48 = 32 := by kernel_rfl
theorem Bt48 : (Y0 zb).P.bytesOf 48 = 32 := by kernel_rfl
theorem ial46 (tag : Tag) (n : Nat) (cs : List DV) (k : IntKind) (i : Int) (h0 : 0 ≤ i) (h1 : i < n) (hl : cs.length = n * 32) : aIndexAddr (Y0 zb).P 46 (.list tag n cs) (.v (.int k i)) = some (.lptr cs (i.toNat * 32)) := by exact ia_list U46 C48 (by decide) _ _ _ _ _ h0 h1 hl
theorem iam46 (d k off n cap : Nat) (q : IntKind) (i : Int) (h0 : 0 ≤ i) (h1 : i < n) : aIndexAddr (Y0 zb).P 46 (.msl d k off n cap) (.v (.int q i)) = some (.ptr d k (off + i.toNat * 32)) := by exact ia_msl U46 C48 (by decide) _ _ _ _ _ _ _ h0 h1
theorem U48 : (Y0 zb).P.underlying 48 = some (.array 2 31) := by kernel_rfl
theorem iap48 (d k off : Nat) (q : IntKind) (i : Int) (h0 : 0 ≤ i) (h1 : i < 2) : aIndexAddr (Y0 zb).P 48 (.ptr d k off) (.v (.int q i)) = some (.ptr d k (off + i.toNat * 16)) := by exact ia_arr U48 C31 (by decide) _ _ _ _ _ h0 h1
theorem iaq48 (cs : List DV) (off : Nat) (q : IntKind) (i : Int) (h0 : 0 ≤ i) (h1 : i < 2) : aIndexAddr (Y0 zb).P 48 (.lptr cs off) (.v (.int q i)) = some (.lptr cs (off + i.toNat * 16)) := by exact ia_larr U48 C31 (by decide) _ _ _ _ h0 h1
theorem U72 : (Y0 zb).P.underlying 72 = some (.slice 9) := by kernel_rfl
theorem C9 : (Y0 zb).P.cellsOf 9 = 1 := by kernel_rfl
theorem Bt9 : (Y0 zb).P.bytesOf 9 = 16 := by kernel_rfl
theorem ial72 (tag : Tag) (n : Nat) (cs : List DV) (k : IntKind) (i : Int) (h0 : 0 ≤ i) (h1 : i < n) (hl : cs.length = n * 1) : aIndexAddr (Y0 zb).P 72 (.list tag n cs) (.v (.int k i)) = some (.lptr cs (i.toNat * 1)) := by exact ia_list U72 C9 (by decide) _ _ _ _ _ h0 h1 hl
theorem iam72 (d k off n cap : Nat) (q : IntKind) (i : Int) (h0 : 0 ≤ i) (h1 : i < n) : aIndexAddr (Y0 zb).P 72 (.msl d k off n cap) (.v (.int q i)) = some (.ptr d k (off + i.toNat * 1)) := by exact ia_msl U72 C9 (by decide) _ _ _ _ _ _ _ h0 h1
theorem U73 : (Y0 zb).P.underlying 73 = some (.slice 5) := by kernel_rfl
theorem ial73 (tag : Tag) (n : Nat) (cs : List DV) (k : IntKind) (i : Int) (h0 : 0 ≤ i) (h1 : i < n) (hl : cs.length = n * 1) : aIndexAddr (Y0 zb).P 73 (.list tag n cs) (.v (.int k i)) = some (.lptr cs (i.toNat * 1)) := by exact ia_list U73 C5 (by decide) _ _ _ _ _ h0 h1 hl
theorem iam73 (d k off n cap : Nat) (q : IntKind) (i : Int) (h0 : 0 ≤ i) (h1 : i < n) : aIndexAddr (Y0 zb).P 73 (.msl d k off n cap) (.v (.int q i)) = some (.ptr d k (off + i.toNat * 1)) := by exact ia_msl U73 C5 (by decide) _ _ _ _ _ _ _ h0 h1
theorem U91 : (Y0 zb).P.underlying 91 = some (.slice 4) := by kernel_rfl
theorem C4 : (Y0 zb).P.cellsOf 4 = 1 := by kernel_rfl
theorem Bt4 : (Y0 zb).P.bytesOf 4 = 1 := by kernel_rfl
theorem ial91 (tag : Tag) (n : Nat) (cs : List DV) (k : IntKind) (i : Int) (h0 : 0 ≤ i) (h1 : i < n) (hl : cs.length = n * 1) : aIndexAddr (Y0 zb).P 91 (.list tag n cs) (.v (.int k i)) = some (.lptr cs (i.toNat * 1)) := by exact ia_list U91 C4 (by decide) _ _ _ _ _ h0 h1 hl
theorem iam91 (d k off n cap : Nat) (q : IntKind) (i : Int) (h0 : 0 ≤ i) (h1 : i < n) : aIndexAddr (Y0 zb).P 91 (.msl d k off n cap) (.v (.int q i)) = some (.ptr d k (off + i.toNat * 1)) := by exact ia_msl U91 C4 (by decide) _ _ _ _ _ _ _ h0 h1
theorem U101 : (Y0 zb).P.underlying 101 = some (.array 8 100) := by kernel_rfl
theorem C100 : (Y0 zb).P.cellsOf 100 = 1 := by kernel_rfl
theorem Bt100 : (Y0 zb).P.bytesOf 100 = 4 := by kernel_rfl
theorem iap101 (d k off : Nat) (q : IntKind) (i : Int) (h0 : 0 ≤ i) (h1 : i < 8) : aIndexAddr (Y0 zb).P 101 (.ptr d k off) (.v (.int q i)) = some (.ptr d k (off + i.toNat * 1)) := by exact ia_arr U101 C100 (by decide) _ _ _ _ _ h0 h1
theorem iaq101 (cs : List DV) (off : Nat) (q : IntKind) (i : Int) (h0 : 0 ≤ i) (h1 : i < 8) : aIndexAddr (Y0 zb).P 101 (.lptr cs off) (.v (.int q i)) = some (.lptr cs (off + i.toNat * 1)) := by exact ia_larr U101 C100 (by decide) _ _ _ _ h0 h1
theorem U102 : (Y0 zb).P.underlying 102 = some (.array 64 5) := by kernel_rfl
theorem iap102 (d k off : Nat) (q : IntKind) (i : Int) (h0 : 0 ≤ i) (h1 : i < 64) : aIndexAddr (Y0 zb).P 102 (.ptr d k off) (.v (.int q i)) = some (.ptr d k (off + i.toNat * 1)) := by exact ia_arr U102 C5 (by decide) _ _ _ _ _ h0 h1
theorem iaq102 (cs : List DV) (off : Nat) (q : IntKind) (i : Int) (h0 : 0 ≤ i) (h1 : i < 64) : aIndexAddr (Y0 zb).P 102 (.lptr cs off) (.v (.int q i)) = some (.lptr cs (off + i.toNat * 1)) := by exact ia_larr U102 C5 (by decide) _ _ _ _ h0 h1
theorem U108 : (Y0 zb).P.underlying 108 = some (.array 32 5) := by kernel_rfl
theorem iap108 (d k off : Nat) (q : IntKind) (i : Int) (h0 : 0 ≤ i) (h1 : i < 32) : aIndexAddr (Y0 zb).P 108 (.ptr d k off) (.v (.int q i)) = some (.ptr d k (off + i.toNat * 1)) := by exact ia_arr U108 C5 (by decide) _ _ _ _ _ h0 h1
theorem iaq108 (cs : List DV) (off : Nat) (q : IntKind) (i : Int) (h0 : 0 ≤ i) (h1 : i < 32) : aIndexAddr (Y0 zb).P 108 (.lptr cs off) (.v (.int q i)) = some (.lptr cs (off + i.toNat * 1)) := by exact ia_larr U108 C5 (by decide) _ _ _ _ h0 h1
theorem U123 : (Y0 zb).P.underlying 123 = some (.array 64 100) := by kernel_rfl
theorem iap123 (d k off : Nat) (q : IntKind) (i : Int) (h0 : 0 ≤ i) (h1 : i < 64) : aIndexAddr (Y0 zb).P 123 (.ptr d k off) (.v (.int q i)) = some (.ptr d k (off + i.toNat * 1)) := by exact ia_arr U123 C100 (by decide) _ _ _ _ _ h0 h1
theorem iaq123 (cs : List DV) (off : Nat) (q : IntKind) (i : Int) (h0 : 0 ≤ i) (h1 : i < 64) : aIndexAddr (Y0 zb).P 123 (.lptr cs off) (.v (.int q i)) = some (.lptr cs (off + i.toNat * 1)) := by exact ia_larr U123 C100 (by decide) _ _ _ _ h0 h1
theorem U125 : (Y0 zb).P.underlying 125 = some (.array 4 100) := by kernel_rfl
theorem iap125 (d k off : Nat) (q : IntKind) (i : Int) (h0 : 0 ≤ i) (h1 : i < 4) : aIndexAddr (Y0 zb).P 125 (.ptr d k off) (.v (.int q i)) = some (.ptr d k (off + i.toNat * 1)) := by exact ia_arr U125 C100 (by decide) _ _ _ _ _ h0 h1
theorem iaq125 (cs : List DV) (off : Nat) (q : IntKind) (i : Int) (h0 : 0 ≤ i) (h1 : i < 4) : aIndexAddr (Y0 zb).P 125 (.lptr cs off) (.v (.int q i)) = some (.lptr cs (off + i.toNat * 1)) := by exact ia_larr U125 C100 (by decide) _ _ _ _ h0 h1
theorem U9 : (Y0 zb).P.underlying 9 = some (.string) := by kernel_rfl
theorem ixs9 (l : List UInt8) (q : IntKind) (i : Int) (h0 : 0 ≤ i) (b : UInt8) (h1 : l[i.toNat]? = some b) : aIndex (Y0 zb).P 9 (vs l) (.v (.int q i)) = some (vy b) := by exact ix_str U9 _ _ _ h0 _ h1
theorem ix123 (cs : List AV) (q : IntKind) (i : Int) (h0 : 0 ≤ i) (h1 : i < 64) : aIndex (Y0 zb).P 123 (.agg cs) (.v (.int q i)) = cs[i.toNat]? := by exact ix_agg U123 C100 ty100 _ _ _ h0 h1
theorem lns9 (l : List UInt8) : aLen (Y0 zb).P 9 (vs l) = some (vi l.length) := by exact ln_str U9 _
theorem lnl22 (tag : Tag) (n : Nat) (cs : List DV) : aLen (Y0 zb).P 22 (.list tag n cs) = some (vi n) := by exact ln_list U22 _ _ _
theorem lnm22 (d k off n cap : Nat) : aLen (Y0 zb).P 22 (.msl d k off n cap) = some (vi n) := by exact ln_msl U22 _ _ _ _ _
theorem lnl37 (tag : Tag) (n : Nat) (cs : List DV) : aLen (Y0 zb).P 37 (.list tag n cs) = some (vi n) := by exact ln_list U37 _ _ _
theorem lnm37 (d k off n cap : Nat) : aLen (Y0 zb).P 37 (.msl d k off n cap) = some (vi n) := by exact ln_msl U37 _ _ _ _ _
theorem lnl46 (tag : Tag) (n : Nat) (cs : List DV) : aLen (Y0 zb).P 46 (.list tag n cs) = some (vi n) := by exact ln_list U46 _ _ _
theorem lnm46 (d k off n cap : Nat) : aLen (Y0 zb).P 46 (.msl d k off n cap) = some (vi n) := by exact ln_msl U46 _ _ _ _ _
theorem lnl72 (tag : Tag) (n : Nat) (cs : List DV) : aLen (Y0 zb).P 72 (.list tag n cs) = some (vi n) := by exact ln_list U72 _ _ _
theorem lnm72 (d k off n cap : Nat) : aLen (Y0 zb).P 72 (.msl d k off n cap) = some (vi n) := by exact ln_msl U72 _ _ _ _ _
theorem lnl73 (tag : Tag) (n : Nat) (cs : List DV) : aLen (Y0 zb).P 73 (.list tag n cs) = some (vi n) := by exact ln_list U73 _ _ _
theorem lnm73 (d k off n cap : Nat) : aLen (Y0 zb).P 73 (.msl d k off n cap) = some (vi n) := by exact ln_msl U73 _ _ _ _ _
theorem lnl91 (tag : Tag) (n : Nat) (cs : List DV) : aLen (Y0 zb).P 91 (.list tag n cs) = some (vi n) := by exact ln_list U91 _ _ _
theorem lnm91 (d k off n cap : Nat) : aLen (Y0 zb).P 91 (.msl d k off n cap) = some (vi n) := by exact ln_msl U91 _ _ _ _ _
theorem sslx9 (l : List UInt8) (a : Int) (h0 : 0 ≤ a) (h1 : a ≤ l.length) : aSlice (Y0 zb).P 9 (vs l) (some (vi a)) none none = some (vs (l.drop a.toNat)) := by exact str_lx U9 _ _ h0 h1
theorem slxh22 (tag : Tag) (n : Nat) (cs : List DV) (b : Int) (h2 : 0 ≤ b) (h3 : b ≤ n) (hl : cs.length = n * 16) : aSlice (Y0 zb).P 22 (.list tag n cs) none (some (vi b)) none = some (.list (cutTag tag n b.toNat) b.toNat (cs.take (b.toNat * 16))) := by exact sl_xh U22 C31 (by decide) _ _ _ _ h2 h3 hl
theorem smxh22 (d k off n cap : Nat) (b : Int) (h1 : 0 ≤ b) (h2 : b ≤ cap) : aSlice (Y0 zb).P 22 (.msl d k off n cap) none (some (vi b)) none = some (.msl d k off b.toNat cap) := by exact sm_xh U22 C31 (by decide) _ _ _ _ _ _ h1 h2
theorem slxhm22 (tag : Tag) (n : Nat) (cs : List DV) (b : Int) (h2 : 0 ≤ b) (h3 : b ≤ n) (hl : cs.length = n * 16) : aSlice (Y0 zb).P 22 (.list tag n cs) none (some (vi b)) (some (vi b)) = some (.list .full b.toNat (cs.take (b.toNat * 16))) := by exact sl_xhm U22 C31 (by decide) _ _ _ _ h2 h3 hl
theorem sllx22 (tag : Tag) (n : Nat) (cs : List DV) (a : Int) (h2 : 0 ≤ a) (h3 : a ≤ n) (hl : cs.length = n * 16) : aSlice (Y0 zb).P 22 (.list tag n cs) (some (vi a)) none none = some (.list (cutTag tag n n) (n - a.toNat) (cs.drop (a.toNat * 16))) := by exact sl_lx U22 C31 (by decide) _ _ _ _ h2 h3 hl
theorem smlx22 (d k off n cap : Nat) (a : Int) (h1 : 0 ≤ a) (h2 : a ≤ n) (h : n ≤ cap) (h4 : a < cap) : aSlice (Y0 zb).P 22 (.msl d k off n cap) (some (vi a)) none none = some (.msl d k (off + a.toNat * 16) (n - a.toNat) (cap - a.toNat)) := by exact sm_lx U22 C31 (by decide) _ _ _ _ _ _ h1 h2 h h4
theorem sllhm22 (tag : Tag) (n : Nat) (cs : List DV) (a b : Int) (h1 : 0 ≤ a) (h2 : a ≤ b) (h3 : b ≤ n) (hl : cs.length = n * 16) : aSlice (Y0 zb).P 22 (.list tag n cs) (some (vi a)) (some (vi b)) (some (vi b)) = some (.list .full (b.toNat - a.toNat) ((cs.drop (a.toNat * 16)).take ((b.toNat - a.toNat) * 16))) := by exact sl_lhm U22 C31 (by decide) _ _ _ _ _ h1 h2 h3 hl
theorem saxx31 (d k off : Nat)  : aSlice (Y0 zb).P 31 (.ptr d k off) none none none = some (.msl d k off 16 16) := by exact sa_xx U31 C5 (by decide) _ _ _ 
theorem slxhm37 (tag : Tag) (n : Nat) (cs : List DV) (b : Int) (h2 : 0 ≤ b) (h3 : b ≤ n) (hl : cs.length = n * 1) : aSlice (Y0 zb).P 37 (.list tag n cs) none (some (vi b)) (some (vi b)) = some (.list .full b.toNat (cs.take (b.toNat * 1))) := by exact sl_xhm U37 C3 (by decide) _ _ _ _ h2 h3 hl
theorem sllx37 (tag : Tag) (n : Nat) (cs : List DV) (a : Int) (h2 : 0 ≤ a) (h3 : a ≤ n) (hl : cs.length = n * 1) : aSlice (Y0 zb).P 37 (.list tag n cs) (some (vi a)) none none = some (.list (cutTag tag n n) (n - a.toNat) (cs.drop (a.toNat * 1))) := by exact sl_lx U37 C3 (by decide) _ _ _ _ h2 h3 hl
theorem smlx37 (d k off n cap : Nat) (a : Int) (h1 : 0 ≤ a) (h2 : a ≤ n) (h : n ≤ cap) (h4 : a < cap) : aSlice (Y0 zb).P 37 (.msl d k off n cap) (some (vi a)) none none = some (.msl d k (off + a.toNat * 1) (n - a.toNat) (cap - a.toNat)) := by exact sm_lx U37 C3 (by decide) _ _ _ _ _ _ h1 h2 h h4
theorem sllh73 (tag : Tag) (n : Nat) (cs : List DV) (a b : Int) (h1 : 0 ≤ a) (h2 : a ≤ b) (h3 : b ≤ n) (hl : cs.length = n * 1) : aSlice (Y0 zb).P 73 (.list tag n cs) (some (vi a)) (some (vi b)) none = some (.list (cutTag tag n b.toNat) (b.toNat - a.toNat) ((cs.drop (a.toNat * 1)).take ((b.toNat - a.toNat) * 1))) := by exact sl_lh U73 C5 (by decide) _ _ _ _ _ h1 h2 h3 hl
theorem saxh101 (d k off : Nat) (b : Int) (h1 : 0 ≤ b) (h2 : b ≤ 8) : aSlice (Y0 zb).P 101 (.ptr d k off) none (some (vi b)) none = some (.msl d k off b.toNat 8) := by exact sa_xh U101 C100 (by decide) _ _ _ _ h1 h2
theorem salx101 (d k off : Nat) (a : Int) (h1 : 0 ≤ a) (h2 : a < 8) : aSlice (Y0 zb).P 101 (.ptr d k off) (some (vi a)) none none = some (.msl d k (off + a.toNat * 1) (8 - a.toNat) (8 - a.toNat)) := by exact sa_lx U101 C100 (by decide) _ _ _ _ h1 h2
theorem saxx102 (d k off : Nat)  : aSlice (Y0 zb).P 102 (.ptr d k off) none none none = some (.msl d k off 64 64) := by exact sa_xx U102 C5 (by decide) _ _ _ 
theorem salx102 (d k off : Nat) (a : Int) (h1 : 0 ≤ a) (h2 : a < 64) : aSlice (Y0 zb).P 102 (.ptr d k off) (some (vi a)) none none = some (.msl d k (off + a.toNat * 1) (64 - a.toNat) (64 - a.toNat)) := by exact sa_lx U102 C5 (by decide) _ _ _ _ h1 h2
theorem saxh108 (d k off : Nat) (b : Int) (h1 : 0 ≤ b) (h2 : b ≤ 32) : aSlice (Y0 zb).P 108 (.ptr d k off) none (some (vi b)) none = some (.msl d k off b.toNat 32) := by exact sa_xh U108 C5 (by decide) _ _ _ _ h1 h2
theorem fap28_0 (d k off : Nat) : aFieldAddr (Y0 zb).P 28 (.ptr d k off) 0 = some (.ptr d k (off + 0)) := by kernel_rfl
theorem fal28_0 (cs : List DV) (off : Nat) : aFieldAddr (Y0 zb).P 28 (.lptr cs off) 0 = some (.lptr cs (off + 0)) := by kernel_rfl
theorem fap28_1 (d k off : Nat) : aFieldAddr (Y0 zb).P 28 (.ptr d k off) 1 = some (.ptr d k (off + 1)) := by kernel_rfl
theorem fal28_1 (cs : List DV) (off : Nat) : aFieldAddr (Y0 zb).P 28 (.lptr cs off) 1 = some (.lptr cs (off + 1)) := by kernel_rfl
theorem fap51_0 (d k off : Nat) : aFieldAddr (Y0 zb).P 51 (.ptr d k off) 0 = some (.ptr d k (off + 0)) := by kernel_rfl
theorem fal51_0 (cs : List DV) (off : Nat) : aFieldAddr (Y0 zb).P 51 (.lptr cs off) 0 = some (.lptr cs (off + 0)) := by kernel_rfl
theorem fap51_1 (d k off : Nat) : aFieldAddr (Y0 zb).P 51 (.ptr d k off) 1 = some (.ptr d k (off + 1)) := by kernel_rfl
theorem fal51_1 (cs : List DV) (off : Nat) : aFieldAddr (Y0 zb).P 51 (.lptr cs off) 1 = some (.lptr cs (off + 1)) := by kernel_rfl
theorem fap57_0 (d k off : Nat) : aFieldAddr (Y0 zb).P 57 (.ptr d k off) 0 = some (.ptr d k (off + 0)) := by kernel_rfl
theorem fal57_0 (cs : List DV) (off : Nat) : aFieldAddr (Y0 zb).P 57 (.lptr cs off) 0 = some (.lptr cs (off + 0)) := by kernel_rfl
theorem fap57_1 (d k off : Nat) : aFieldAddr (Y0 zb).P 57 (.ptr d k off) 1 = some (.ptr d k (off + 2)) := by kernel_rfl
theorem fal57_1 (cs : List DV) (off : Nat) : aFieldAddr (Y0 zb).P 57 (.lptr cs off) 1 = some (.lptr cs (off + 2)) := by kernel_rfl
theorem fap60_0 (d k off : Nat) : aFieldAddr (Y0 zb).P 60 (.ptr d k off) 0 = some (.ptr d k (off + 0)) := by kernel_rfl
theorem fal60_0 (cs : List DV) (off : Nat) : aFieldAddr (Y0 zb).P 60 (.lptr cs off) 0 = some (.lptr cs (off + 0)) := by kernel_rfl
theorem fap60_1 (d k off : Nat) : aFieldAddr (Y0 zb).P 60 (.ptr d k off) 1 = some (.ptr d k (off + 16)) := by kernel_rfl
theorem fal60_1 (cs : List DV) (off : Nat) : aFieldAddr (Y0 zb).P 60 (.lptr cs off) 1 = some (.lptr cs (off + 16)) := by kernel_rfl
theorem fap81_0 (d k off : Nat) : aFieldAddr (Y0 zb).P 81 (.ptr d k off) 0 = some (.ptr d k (off + 0)) := by kernel_rfl
theorem fal81_0 (cs : List DV) (off : Nat) : aFieldAddr (Y0 zb).P 81 (.lptr cs off) 0 = some (.lptr cs (off + 0)) := by kernel_rfl
theorem fap81_1 (d k off : Nat) : aFieldAddr (Y0 zb).P 81 (.ptr d k off) 1 = some (.ptr d k (off + 1)) := by kernel_rfl
theorem fal81_1 (cs : List DV) (off : Nat) : aFieldAddr (Y0 zb).P 81 (.lptr cs off) 1 = some (.lptr cs (off + 1)) := by kernel_rfl
theorem fap86_0 (d k off : Nat) : aFieldAddr (Y0 zb).P 86 (.ptr d k off) 0 = some (.ptr d k (off + 0)) := by kernel_rfl
theorem fal86_0 (cs : List DV) (off : Nat) : aFieldAddr (Y0 zb).P 86 (.lptr cs off) 0 = some (.lptr cs (off + 0)) := by kernel_rfl
theorem fap86_1 (d k off : Nat) : aFieldAddr (Y0 zb).P 86 (.ptr d k off) 1 = some (.ptr d k (off + 16)) := by kernel_rfl
theorem fal86_1 (cs : List DV) (off : Nat) : aFieldAddr (Y0 zb).P 86 (.lptr cs off) 1 = some (.lptr cs (off + 16)) := by kernel_rfl
theorem fap86_2 (d k off : Nat) : aFieldAddr (Y0 zb).P 86 (.ptr d k off) 2 = some (.ptr d k (off + 17)) := by kernel_rfl
theorem fal86_2 (cs : List DV) (off : Nat) : aFieldAddr (Y0 zb).P 86 (.lptr cs off) 2 = some (.lptr cs (off + 17)) := by kernel_rfl
theorem fap86_3 (d k off : Nat) : aFieldAddr (Y0 zb).P 86 (.ptr d k off) 3 = some (.ptr d k (off + 18)) := by kernel_rfl
theorem fal86_3 (cs : List DV) (off : Nat) : aFieldAddr (Y0 zb).P 86 (.lptr cs off) 3 = some (.lptr cs (off + 18)) := by kernel_rfl
theorem fap104_0 (d k off : Nat) : aFieldAddr (Y0 zb).P 104 (.ptr d k off) 0 = some (.ptr d k (off + 0)) := by kernel_rfl
theorem fal104_0 (cs : List DV) (off : Nat) : aFieldAddr (Y0 zb).P 104 (.lptr cs off) 0 = some (.lptr cs (off + 0)) := by kernel_rfl
theorem fap104_1 (d k off : Nat) : aFieldAddr (Y0 zb).P 104 (.ptr d k off) 1 = some (.ptr d k (off + 8)) := by kernel_rfl
theorem fal104_1 (cs : List DV) (off : Nat) : aFieldAddr (Y0 zb).P 104 (.lptr cs off) 1 = some (.lptr cs (off + 8)) := by kernel_rfl
theorem fap104_2 (d k off : Nat) : aFieldAddr (Y0 zb).P 104 (.ptr d k off) 2 = some (.ptr d k (off + 72)) := by kernel_rfl
theorem fal104_2 (cs : List DV) (off : Nat) : aFieldAddr (Y0 zb).P 104 (.lptr cs off) 2 = some (.lptr cs (off + 72)) := by kernel_rfl
theorem cv3_5 (k : IntKind) (n : Int) (s : St) : aConvS (Y0 zb).P 3 5 (.v (.int k n)) s = some (.v (.int .u8 (IntKind.wrap .u8 n))) := by kernel_rfl
theorem cv3_42 (k : IntKind) (n : Int) (s : St) : aConvS (Y0 zb).P 3 42 (.v (.int k n)) s = some (.v (.int .u64 (IntKind.wrap .u64 n))) := by kernel_rfl
theorem cv3_94 (k : IntKind) (n : Int) (s : St) : aConvS (Y0 zb).P 3 94 (.v (.int k n)) s = some (.v (.int .u64 (IntKind.wrap .u64 n))) := by kernel_rfl
theorem cv5_3 (k : IntKind) (n : Int) (s : St) : aConvS (Y0 zb).P 5 3 (.v (.int k n)) s = some (.v (.int .i64 (IntKind.wrap .i64 n))) := by kernel_rfl
theorem cv5_100 (k : IntKind) (n : Int) (s : St) : aConvS (Y0 zb).P 5 100 (.v (.int k n)) s = some (.v (.int .u32 (IntKind.wrap .u32 n))) := by kernel_rfl
theorem cv42_3 (k : IntKind) (n : Int) (s : St) : aConvS (Y0 zb).P 42 3 (.v (.int k n)) s = some (.v (.int .i64 (IntKind.wrap .i64 n))) := by kernel_rfl
theorem cv42_5 (k : IntKind) (n : Int) (s : St) : aConvS (Y0 zb).P 42 5 (.v (.int k n)) s = some (.v (.int .u8 (IntKind.wrap .u8 n))) := by kernel_rfl
theorem cvb73_9 (tag : Tag) (n : Nat) (l : List UInt8) (hn : n = l.length) (s : St) : aConvS (Y0 zb).P 73 9 (.list tag n (bcells l)) s = some (vs l) := by exact cv_bytes (by kernel_rfl) (by kernel_rfl) _ _ _ hn _
theorem cvm73_9 (d k off n c : Nat) (s : St) (b : Blk) (hb : getBlk s d k = some b) (l : List UInt8) (hl : (b.cells.drop off).take n = l.map vy) (hn : off + n ≤ b.cells.length) : aConvS (Y0 zb).P 73 9 (.msl d k off n c) s = some (vs l) := by exact cv_msl (by kernel_rfl) (by kernel_rfl) _ _ _ _ _ _ _ hb _ hl hn
theorem cv94_3 (k : IntKind) (n : Int) (s : St) : aConvS (Y0 zb).P 94 3 (.v (.int k n)) s = some (.v (.int .i64 (IntKind.wrap .i64 n))) := by kernel_rfl
theorem cv94_100 (k : IntKind) (n : Int) (s : St) : aConvS (Y0 zb).P 94 100 (.v (.int k n)) s = some (.v (.int .u32 (IntKind.wrap .u32 n))) := by kernel_rfl
theorem cv100_5 (k : IntKind) (n : Int) (s : St) : aConvS (Y0 zb).P 100 5 (.v (.int k n)) s = some (.v (.int .u8 (IntKind.wrap .u8 n))) := by kernel_rfl
theorem ar31 (d k off m c : Nat) (h : 16 ≤ m) : aArr (Y0 zb).P 31 (.msl d k off m c) = some (.ptr d k off) := by unfold aArr; rw [show (Y0 zb).P.underlying 31 = some (.array 16 5) by kernel_rfl]; simp only [if_pos h]
theorem ar125 (d k off m c : Nat) (h : 4 ≤ m) : aArr (Y0 zb).P 125 (.msl d k off m c) = some (.ptr d k off) := by unfold aArr; rw [show (Y0 zb).P.underlying 125 = some (.array 4 100) by kernel_rfl]; simp only [if_pos h]
theorem bs22_0 : aBuildSlice (Y0 zb).P 22 0 [] = some (.list .full 0 []) := by kernel_rfl
theorem bs37_1 (x0 : Value) : aBuildSlice (Y0 zb).P 37 1 [(0, .v x0)] = some (.list .full 1 [.v x0]) := by kernel_rfl
theorem bs37_2 (x0 x1 : Value) : aBuildSlice (Y0 zb).P 37 2 [(0, .v x0), (1, .v x1)] = some (.list .full 2 [.v x0, .v x1]) := by kernel_rfl
theorem bs72_1 (x0 : Value) : aBuildSlice (Y0 zb).P 72 1 [(0, .v x0)] = some (.list .full 1 [.v x0]) := by kernel_rfl
theorem bs72_2 (x0 x1 : Value) : aBuildSlice (Y0 zb).P 72 2 [(0, .v x0), (1, .v x1)] = some (.list .full 2 [.v x0, .v x1]) := by kernel_rfl
theorem bs73_0 : aBuildSlice (Y0 zb).P 73 0 [] = some (.list .full 0 []) := by kernel_rfl
theorem bs73_1 (x0 : Value) : aBuildSlice (Y0 zb).P 73 1 [(0, .v x0)] = some (.list .full 1 [.v x0]) := by kernel_rfl
theorem bs91_1 (x0 : Value) : aBuildSlice (Y0 zb).P 91 1 [(0, .v x0)] = some (.list .full 1 [.v x0]) := by kernel_rfl
theorem bd28_e : aBuild (Y0 zb).P 28 [] = some (.agg ([.list .full 0 [], .v (.int .i64 0)])) := by kernel_rfl
theorem bd28_0 (t0 : Tag) (n0 : Nat) (c0 : List DV) : aBuild (Y0 zb).P 28 [(0, .list t0 n0 c0)] = some (.agg [.list t0 n0 c0, .v (.int .i64 0)]) := by kernel_rfl
theorem bd28_1 (x0 : Value) : aBuild (Y0 zb).P 28 [(1, .v x0)] = some (.agg [.list .full 0 [], .v x0]) := by kernel_rfl
theorem bd31_e : aBuild (Y0 zb).P 31 [] = some (.agg (List.replicate 16 (.v (.int .u8 0)))) := by kernel_rfl
theorem bd51_e : aBuild (Y0 zb).P 51 [] = some (.agg ([.v (.int .i64 0), .list .full 0 []])) := by kernel_rfl
theorem bd51_0_1 (x0 : Value) (t1 : Tag) (n1 : Nat) (c1 : List DV) : aBuild (Y0 zb).P 51 [(0, .v x0), (1, .list t1 n1 c1)] = some (.agg [.v x0, .list t1 n1 c1]) := by kernel_rfl
theorem bd57_1 (x0 : Value) : aBuild (Y0 zb).P 57 [(1, .v x0)] = some (.agg [.v (.int .i64 0), .list .full 0 [], .v x0]) := by kernel_rfl
theorem bd81_0 (t0 : Tag) (n0 : Nat) (c0 : List DV) : aBuild (Y0 zb).P 81 [(0, .list t0 n0 c0)] = some (.agg [.list t0 n0 c0, .v (.bool false)]) := by kernel_rfl
theorem bd86_e : aBuild (Y0 zb).P 86 [] = some (.agg (List.replicate 16 (.v (.int .u8 0)) ++ [.v (.int .i64 0), .v (.int .i64 0), .v (.bool false)])) := by kernel_rfl
theorem bd125_0_1_2_3 (x0 : Value) (x1 : Value) (x2 : Value) (x3 : Value) : aBuild (Y0 zb).P 125 [(0, .v x0), (1, .v x1), (2, .v x2), (3, .v x3)] = some (.agg [.v x0, .v x1, .v x2, .v x3]) := by kernel_rfl
theorem srcT22 : srcType (Y0 zb).P 22 = true := by kernel_rfl
theorem ap22 (tag : Tag) (n : Nat) (cs : List DV) (tag2 : Tag) (m : Nat) (ys : List DV) (s : St) (h1 : cs.length = n * 16) (h2 : ys.length = m * 16) (h3 : (n + m) * 16 ≤ 140737488355328) (h4 : 0 < m) : aAppend (Y0 zb).P 22 (.list tag n cs) (.list tag2 m ys) s = (growTok s tag n m).map fun p => (.list p.1 (n + m) (cs ++ ys), p.2) := by exact ap_list U22 C31 (by decide) Bt31 (by decide) (by kernel_rfl) _ _ _ _ _ _ _ h1 h2 h3 h4
theorem apz22 (tag : Tag) (n : Nat) (cs : List DV) (tag2 : Tag) (s : St) (h1 : cs.length = n * 16) (h3 : n * 16 ≤ 140737488355328) : aAppend (Y0 zb).P 22 (.list tag n cs) (.list tag2 0 []) s = some (.list tag n cs, s) := by exact ap_zero U22 C31 (by decide) Bt31 (by decide) (by kernel_rfl) _ _ _ _ _ h1 h3
theorem srcT37 : srcType (Y0 zb).P 37 = true := by kernel_rfl
theorem ap37 (tag : Tag) (n : Nat) (cs : List DV) (tag2 : Tag) (m : Nat) (ys : List DV) (s : St) (h1 : cs.length = n * 1) (h2 : ys.length = m * 1) (h3 : (n + m) * 8 ≤ 140737488355328) (h4 : 0 < m) : aAppend (Y0 zb).P 37 (.list tag n cs) (.list tag2 m ys) s = (growTok s tag n m).map fun p => (.list p.1 (n + m) (cs ++ ys), p.2) := by exact ap_list U37 C3 (by decide) Bt3 (by decide) (by kernel_rfl) _ _ _ _ _ _ _ h1 h2 h3 h4
theorem apz37 (tag : Tag) (n : Nat) (cs : List DV) (tag2 : Tag) (s : St) (h1 : cs.length = n * 1) (h3 : n * 8 ≤ 140737488355328) : aAppend (Y0 zb).P 37 (.list tag n cs) (.list tag2 0 []) s = some (.list tag n cs, s) := by exact ap_zero U37 C3 (by decide) Bt3 (by decide) (by kernel_rfl) _ _ _ _ _ h1 h3
theorem srcT46 : srcType (Y0 zb).P 46 = true := by kernel_rfl
theorem ap46 (tag : Tag) (n : Nat) (cs : List DV) (tag2 : Tag) (m : Nat) (ys : List DV) (s : St) (h1 : cs.length = n * 32) (h2 : ys.length = m * 32) (h3 : (n + m) * 32 ≤ 140737488355328) (h4 : 0 < m) : aAppend (Y0 zb).P 46 (.list tag n cs) (.list tag2 m ys) s = (growTok s tag n m).map fun p => (.list p.1 (n + m) (cs ++ ys), p.2) := by exact ap_list U46 C48 (by decide) Bt48 (by decide) (by kernel_rfl) _ _ _ _ _ _ _ h1 h2 h3 h4
theorem apz46 (tag : Tag) (n : Nat) (cs : List DV) (tag2 : Tag) (s : St) (h1 : cs.length = n * 32) (h3 : n * 32 ≤ 140737488355328) : aAppend (Y0 zb).P 46 (.list tag n cs) (.list tag2 0 []) s = some (.list tag n cs, s) := by exact ap_zero U46 C48 (by decide) Bt48 (by decide) (by kernel_rfl) _ _ _ _ _ h1 h3
theorem srcT9 : srcType (Y0 zb).P 9 = true := by kernel_rfl
theorem aps73 (tag : Tag) (n : Nat) (cs : List DV) (l : List UInt8) (s : St) (h1 : cs.length = n) (h3 : n + l.length ≤ 140737488355328) (h4 : 0 < l.length) : aAppend (Y0 zb).P 73 (.list tag n cs) (vs l) s = (growTok s tag n l.length).map fun p => (.list p.1 (n + l.length) (cs ++ bcells l), p.2) := by exact ap_str (B := 1) U73 C5 Bt5 (by kernel_rfl) _ _ _ _ _ h1 h3 h4
theorem apsz73 (tag : Tag) (n : Nat) (cs : List DV) (s : St) (h1 : cs.length = n) (h3 : n ≤ 140737488355328) : aAppend (Y0 zb).P 73 (.list tag n cs) (vs []) s = some (.list tag n cs, s) := by exact ap_str0 (B := 1) U73 C5 Bt5 (by kernel_rfl) _ _ _ _ h1 h3
theorem srcT73 : srcType (Y0 zb).P 73 = true := by kernel_rfl
theorem ap73 (tag : Tag) (n : Nat) (cs : List DV) (tag2 : Tag) (m : Nat) (ys : List DV) (s : St) (h1 : cs.length = n * 1) (h2 : ys.length = m * 1) (h3 : (n + m) * 1 ≤ 140737488355328) (h4 : 0 < m) : aAppend (Y0 zb).P 73 (.list tag n cs) (.list tag2 m ys) s = (growTok s tag n m).map fun p => (.list p.1 (n + m) (cs ++ ys), p.2) := by exact ap_list U73 C5 (by decide) Bt5 (by decide) (by kernel_rfl) _ _ _ _ _ _ _ h1 h2 h3 h4
theorem apz73 (tag : Tag) (n : Nat) (cs : List DV) (tag2 : Tag) (s : St) (h1 : cs.length = n * 1) (h3 : n * 1 ≤ 140737488355328) : aAppend (Y0 zb).P 73 (.list tag n cs) (.list tag2 0 []) s = some (.list tag n cs, s) := by exact ap_zero U73 C5 (by decide) Bt5 (by decide) (by kernel_rfl) _ _ _ _ _ h1 h3
theorem srcT91 : srcType (Y0 zb).P 91 = true := by kernel_rfl
theorem ap91 (tag : Tag) (n : Nat) (cs : List DV) (tag2 : Tag) (m : Nat) (ys : List DV) (s : St) (h1 : cs.length = n * 1) (h2 : ys.length = m * 1) (h3 : (n + m) * 1 ≤ 140737488355328) (h4 : 0 < m) : aAppend (Y0 zb).P 91 (.list tag n cs) (.list tag2 m ys) s = (growTok s tag n m).map fun p => (.list p.1 (n + m) (cs ++ ys), p.2) := by exact ap_list U91 C4 (by decide) Bt4 (by decide) (by kernel_rfl) _ _ _ _ _ _ _ h1 h2 h3 h4
theorem apz91 (tag : Tag) (n : Nat) (cs : List DV) (tag2 : Tag) (s : St) (h1 : cs.length = n * 1) (h3 : n * 1 ≤ 140737488355328) : aAppend (Y0 zb).P 91 (.list tag n cs) (.list tag2 0 []) s = some (.list tag n cs, s) := by exact ap_zero U91 C4 (by decide) Bt4 (by decide) (by kernel_rfl) _ _ _ _ _ h1 h3
theorem eqb_eql4 (a b : Bool) : aBin (Y0 zb).P .eql 4 (vb a) (vb b) = some (vb ((a == b))) := by kernel_rfl
theorem eqb_neq4 (a b : Bool) : aBin (Y0 zb).P .neq 4 (vb a) (vb b) = some (vb (!(a == b))) := by kernel_rfl
end Go.Proofs.YtnfdepafmmibaaaDoor

/-! The rules of stepping, bound together. Conditions: none. -/
set_option linter.unusedVariables false
set_option linter.defProp false
set_option maxRecDepth 20000
namespace Go.Proofs.YtnfdepafmmibaaaDoor
open Go
def rP := And.intro @gP_none (And.intro @gS_none (And.intro @gP_gone (And.intro @gS_gone (And.intro @gP_tt (And.intro @gP_tf (And.intro @gP_ft (And.intro @gP_ff (And.intro @gP_dtt (And.intro @gP_dtf (And.intro @gP_dft (And.intro @gP_dff (And.intro @gS_tt (And.intro @gS_tf (And.intro @gS_ft (And.intro @gS_ff (And.intro @gS_dtt (And.intro @gS_dtf (And.intro @gS_dft (And.intro @gS_dff (And.intro @ifA_true (And.intro @ifA_false (And.intro @ifA_dt (And.intro @ifA_df (And.intro @obind_some (And.intro @bind2_some (And.intro @needs_nil (And.intro @needs_same (@needs_none))))))))))))))))))))))))))))
def rO := And.intro @decide_eq_true_eq (And.intro @gP_none (And.intro @gS_none (And.intro @gP_tt (And.intro @gP_tf (And.intro @gP_ft (And.intro @gP_ff (And.intro @gP_dtt (And.intro @gP_dtf (And.intro @gP_dft (And.intro @gP_dff (And.intro @gS_tt (And.intro @gS_tf (And.intro @gS_ft (And.intro @gS_ff (And.intro @gS_dtt (And.intro @gS_dtf (And.intro @gS_dft (And.intro @gS_dff (And.intro @ifA_true (And.intro @ifA_false (And.intro @ifA_dt (And.intro @ifA_df (And.intro @aPick_t (And.intro @aPick_f (And.intro @aPick_dt (And.intro @aPick_df (And.intro @not_dec (And.intro @bind2_some (And.intro @obind_some (And.intro @Option.bind_some.{0,0} (And.intro @Option.bind_none.{0,0} (And.intro @Option.map_some.{0,0} (And.intro @needs_nil (And.intro @needs_at2 (And.intro @needs_same (And.intro @needs_none (And.intro @rloc_ptr (And.intro @rloc_msl (And.intro @rloc_v (And.intro @rloc_list (And.intro @rloc_lptr (And.intro @rloc_agg (And.intro @callee_fn (And.intro @callRes_some (And.intro @leave_0 (And.intro @leave_1 (And.intro @leave_2 (And.intro @leave_3 (And.intro @outV_v (And.intro @outV_none (And.intro @outV_full (And.intro @outV_agg (And.intro @outV_undef (And.intro @outV_fn0 (And.intro @bare_v (And.intro @bare_list (And.intro @keep_v (And.intro @keep_none (And.intro @keep_full (And.intro @keep_lptr (And.intro @keep_agg (And.intro @keep_undef (And.intro @keep_ptr (And.intro @keep_own (And.intro @keep_msl (And.intro @depth_cons (And.intro @topB_cons (And.intro @topT_cons (And.intro @trim_cons (And.intro @rights_cons (And.intro @getBlk_top (And.intro @setBlk_top (And.intro @getTok_top (And.intro @setTok_top (And.intro @getBlk_top2 (And.intro @setBlk_top2 (And.intro @getTok_top2 (And.intro @setTok_top2 (And.intro @parts_v (And.intro @parts_agg (And.intro @parts_list (And.intro @parts_ptr (And.intro @parts_fn (And.intro @setAt_nil (And.intro @setAt_cons (And.intro @tok_plain (And.intro @fit_v (And.intro @newBlk_plain (And.intro @aBox_v (And.intro @nilTok (And.intro @grow_full (And.intro @cutTag_none (And.intro @cutTag_own (And.intro @cutTag_full (And.intro @if_true.{1} (And.intro @if_false.{1} (And.intro @Bool.false_eq_true (And.intro @Bool.true_eq_false (And.intro @Bool.not_true (And.intro @Bool.not_false (And.intro @ite_true.{1} (And.intro @ite_false.{1} (And.intro @List.length_cons.{0} (And.intro @List.length_nil.{0} (And.intro @List.getElem?_cons_zero.{0} (And.intro @List.getElem?_cons_succ.{0} (And.intro @List.getElem?_nil.{0} (And.intro @List.set_cons_zero.{0} (And.intro @List.set_cons_succ.{0} (And.intro @List.map_cons.{0,0} (And.intro @List.map_nil.{0,0} (And.intro @List.cons_append.{0} (And.intro @List.nil_append.{0} (And.intro @List.append_nil.{0} (And.intro @List.take_succ_cons.{0} (And.intro @List.take_zero.{0} (And.intro @List.drop_succ_cons.{0} (And.intro @List.drop_zero.{0} (And.intro @List.all_cons.{0} (And.intro @List.all_nil.{0} (And.intro @decide_true (And.intro @decide_false (And.intro @not_true_eq_false (And.intro @not_false_eq_true (And.intro @Bool.and_true (And.intro @Bool.true_and (And.intro @Bool.and_self (And.intro @Int.toNat_natCast (And.intro @Int.zero_add (And.intro @Int.add_zero (And.intro @Int.sub_zero (And.intro @Int.toNat_zero (And.intro @Nat.zero_add (And.intro @Nat.add_zero (And.intro @Nat.mul_one (And.intro @eq_self.{1} (And.intro @true_and (And.intro @and_true (And.intro @and_self (And.intro @or_true (And.intro @true_or (And.intro @or_false (@false_or)))))))))))))))))))))))))))))))))))))))))))))))))))))))))))))))))))))))))))))))))))))))))))))))))))))))))))))))))))))))))))))))))))))))))))))))
def rI := And.intro @i_add (And.intro @i_sub (And.intro @i_mul (And.intro @i_neg (And.intro @i_quo (And.intro @i_rem (And.intro @b_lss (And.intro @b_leq (And.intro @b_gtr (And.intro @b_geq (And.intro @b_eql (And.intro @b_neq (And.intro @u_not (And.intro @if_pos.{1} (And.intro @if_neg.{1} (And.intro @getBlk_low (And.intro @setBlk_low (And.intro @getTok_low (And.intro @setTok_low (@grow_own)))))))))))))))))))
def rT := And.intro @ldp3 (And.intro @ldl3 (And.intro @st3 (And.intro @ldp4 (And.intro @ldl4 (And.intro @st4 (And.intro @ldp5 (And.intro @ldl5 (And.intro @st5 (And.intro @ldp9 (And.intro @ldl9 (And.intro @st9 (And.intro @ldp22 (And.intro @ldl22 (And.intro @st22 (And.intro @ldp24 (And.intro @ldl24 (And.intro @st24 (And.intro @ldp28 (And.intro @ldl28 (And.intro @st28 (And.intro @ldp31 (And.intro @ldl31 (And.intro @st31 (And.intro @ldp42 (And.intro @ldl42 (And.intro @st42 (And.intro @ldp48 (And.intro @ldl48 (And.intro @st48 (And.intro @ldp51 (And.intro @ldl51 (And.intro @st51 (And.intro @ldp57 (And.intro @ldl57 (And.intro @st57 (And.intro @ldp60 (And.intro @ldl60 (And.intro @st60 (And.intro @ldp64 (And.intro @ldl64 (And.intro @st64 (And.intro @ldp66 (And.intro @ldl66 (And.intro @st66 (And.intro @ldp75 (And.intro @ldl75 (And.intro @st75 (And.intro @ldp79 (And.intro @ldl79 (And.intro @st79 (And.intro @ldp81 (And.intro @ldl81 (And.intro @st81 (And.intro @ldp84 (And.intro @ldl84 (And.intro @st84 (And.intro @ldp86 (And.intro @ldl86 (And.intro @st86 (And.intro @ldp88 (And.intro @ldl88 (And.intro @st88 (And.intro @ldp89 (And.intro @ldl89 (And.intro @st89 (And.intro @ldp100 (And.intro @ldl100 (And.intro @st100 (And.intro @ldp101 (And.intro @ldl101 (And.intro @st101 (And.intro @ldp104 (And.intro @ldl104 (And.intro @st104 (And.intro @ldp108 (And.intro @ldl108 (And.intro @st108 (And.intro @ldp123 (And.intro @ldl123 (And.intro @st123 (And.intro @ldp125 (And.intro @ldl125 (And.intro @st125 (And.intro @al4 (And.intro @al22 (And.intro @al28 (And.intro @al31 (And.intro @al48 (And.intro @al51 (And.intro @al57 (And.intro @al60 (And.intro @al64 (And.intro @al66 (And.intro @al75 (And.intro @al79 (And.intro @al84 (And.intro @al86 (And.intro @al88 (And.intro @al89 (And.intro @al101 (And.intro @al104 (And.intro @al108 (And.intro @al123 (And.intro @al125 (And.intro @ial22 (And.intro @iam22 (And.intro @iap31 (And.intro @iaq31 (And.intro @ial37 (And.intro @iam37 (And.intro @ial46 (And.intro @iam46 (And.intro @iap48 (And.intro @iaq48 (And.intro @ial72 (And.intro @iam72 (And.intro @ial73 (And.intro @iam73 (And.intro @ial91 (And.intro @iam91 (And.intro @iap101 (And.intro @iaq101 (And.intro @iap102 (And.intro @iaq102 (And.intro @iap108 (And.intro @iaq108 (And.intro @iap123 (And.intro @iaq123 (And.intro @iap125 (And.intro @iaq125 (And.intro @ix123 (And.intro @lns9 (And.intro @lnl22 (And.intro @lnm22 (And.intro @lnl37 (And.intro @lnm37 (And.intro @lnl46 (And.intro @lnm46 (And.intro @lnl72 (And.intro @lnm72 (And.intro @lnl73 (And.intro @lnm73 (And.intro @lnl91 (And.intro @lnm91 (And.intro @sslx9 (And.intro @slxh22 (And.intro @smxh22 (And.intro @slxhm22 (And.intro @sllx22 (And.intro @smlx22 (And.intro @sllhm22 (And.intro @saxx31 (And.intro @slxhm37 (And.intro @sllx37 (And.intro @smlx37 (And.intro @sllh73 (And.intro @saxh101 (And.intro @salx101 (And.intro @saxx102 (And.intro @salx102 (And.intro @saxh108 (And.intro @fap28_0 (And.intro @fal28_0 (And.intro @fap28_1 (And.intro @fal28_1 (And.intro @fap51_0 (And.intro @fal51_0 (And.intro @fap51_1 (And.intro @fal51_1 (And.intro @fap57_0 (And.intro @fal57_0 (And.intro @fap57_1 (And.intro @fal57_1 (And.intro @fap60_0 (And.intro @fal60_0 (And.intro @fap60_1 (And.intro @fal60_1 (And.intro @fap81_0 (And.intro @fal81_0 (And.intro @fap81_1 (And.intro @fal81_1 (And.intro @fap86_0 (And.intro @fal86_0 (And.intro @fap86_1 (And.intro @fal86_1 (And.intro @fap86_2 (And.intro @fal86_2 (And.intro @fap86_3 (And.intro @fal86_3 (And.intro @fap104_0 (And.intro @fal104_0 (And.intro @fap104_1 (And.intro @fal104_1 (And.intro @fap104_2 (And.intro @fal104_2 (And.intro @cv3_5 (And.intro @cv3_42 (And.intro @cv3_94 (And.intro @cv5_3 (And.intro @cv5_100 (And.intro @cv42_3 (And.intro @cv42_5 (And.intro @cvb73_9 (And.intro @cv94_3 (And.intro @cv94_100 (And.intro @cv100_5 (And.intro @ar31 (And.intro @ar125 (And.intro @bs22_0 (And.intro @bs37_1 (And.intro @bs37_2 (And.intro @bs72_1 (And.intro @bs72_2 (And.intro @bs73_0 (And.intro @bs73_1 (And.intro @bs91_1 (And.intro @bd28_e (And.intro @bd28_0 (And.intro @bd28_1 (And.intro @bd31_e (And.intro @bd51_e (And.intro @bd51_0_1 (And.intro @bd57_1 (And.intro @bd81_0 (And.intro @bd86_e (And.intro @bd125_0_1_2_3 (And.intro @srcT22 (And.intro @ap22 (And.intro @apz22 (And.intro @srcT37 (And.intro @ap37 (And.intro @apz37 (And.intro @srcT46 (And.intro @ap46 (And.intro @apz46 (And.intro @srcT9 (And.intro @aps73 (And.intro @apsz73 (And.intro @srcT73 (And.intro @ap73 (And.intro @apz73 (And.intro @srcT91 (And.intro @ap91 (And.intro @apz91 (And.intro @eqb_eql4 (@eqb_neq4))))))))))))))))))))))))))))))))))))))))))))))))))))))))))))))))))))))))))))))))))))))))))))))))))))))))))))))))))))))))))))))))))))))))))))))))))))))))))))))))))))))))))))))))))))))))))))))))))))))))))))))))))))))))))))))))))))))))))))))))))))))
def rB := And.intro @getBlk_top (And.intro @getTok_top (And.intro @getBlk_top2 (And.intro @getTok_top2 (And.intro @List.getElem?_cons_succ.{0} (@List.getElem?_cons_zero.{0})))))
def rL := And.intro @List.length_cons.{0} (And.intro @List.length_nil.{0} (And.intro @List.length_append.{0} (And.intro @List.length_map.{0,0} (And.intro @List.length_set.{0} (And.intro @List.length_replicate.{0} (And.intro @List.length_take.{0} (And.intro @List.length_drop.{0} (And.intro @bcells_len (And.intro @dcells_len (@Dig.len))))))))))
end Go.Proofs.YtnfdepafmmibaaaDoor
