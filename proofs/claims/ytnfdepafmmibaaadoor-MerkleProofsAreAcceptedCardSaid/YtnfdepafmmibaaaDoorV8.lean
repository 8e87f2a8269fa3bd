/- Hash trees: digests and lists of digests in the machine; Leaf, Node, the empty root, split | Hash trees: split and Root, the program's and the reference's | Hash trees: the proof of an element, the program's and the reference's | Hash trees: the proof of a beginning, the program's and the reference's | Hash trees: paths, and the check of an element | Hash trees: the check of an element | Hash trees: the check of a beginning | Places: ascending places, the place of a number in a list, and cutting a list there | Hash trees: the proof for several elements | Hash trees: the check of several elements | Hash trees: the reference's proof for several elements | Hash trees: the reference's Many, walk and CheckMany | The examples of the documentation, by plain functions | The examples of the documentation: sanity | Two laws: the proofs match the specification, and those for several elements | How many ones a number has | How many zeros are at a number's end | Whether peaks are well-formed | The reference's count of ones, and whether peaks are well-formed | The reference's Top and Append of peaks | The reference's Append of peaks | The law MerklePeaksMatchSpec at the machine | The law MerklePeaksGrow at the machine | Pairs of digests in the machine: building, reading, equality | The pairs on the way to a root, at the machine | The pairs on the way to a root, at the machine (2) | The pairs on the way to a root at the machine (3), and the law MerkleProofsBind | The law MerkleProofsBind at the machine | The law MerkleProofsAreAccepted at the machine: its loops | The law MerkleProofsAreAccepted at the machine | The law MerkleProofsAreAccepted at the machine (2) | The law MerkleProofsAreAccepted at the machine (3). Conditions: none. -/
import Derived.Test.YtnfdepafmmibaaaDoorV7
/-! Hash trees: digests and lists of digests in the machine; Leaf, Node, the empty root, split. Conditions: at most 2^20 digests, texts below 2^40. -/
set_option linter.unusedVariables false
set_option linter.unusedSimpArgs false
set_option maxRecDepth 20000
set_option maxHeartbeats 1000000
namespace Go.Proofs.YtnfdepafmmibaaaDoor
open Go
variable {zb : Bool}
/-! ### Digests -/
theorem fold_d (d : Dig) : AV.agg (d.val.map vy) = vd d := rfl
theorem parts_vd (d : Dig) : (vd d).parts = some (d.val.map vy) := rfl
theorem outV_vd (k : Nat) (f : Frm) (P : Program) (d : Dig) : outV k f P (vd d) = vd d := by rw [vd, outV_agg, map_bare_y]
theorem keep_vd (k a b : Nat) (d : Dig) : keep k a b (vd d) = vd d := by rw [vd, keep_agg, map_bare_y]
theorem box_vd (t : TypeId) (d : Dig) (f : Frm) (r : St) :
    aBox t (vd d) (f :: r) = some (.ptr r.length f.blks.length 0, { blks := f.blks ++ [{ ty := t, tk := f.toks.length, cells := d.val.map vy }], toks := f.toks } :: r) := aBox_agg t (map_plain_y _) f r
theorem z16 : List.replicate 16 (AV.v (.int .u8 0)) = Dig.zero.val.map vy := rfl
theorem new_vd (t : TypeId) (d : Dig) (f : Frm) (r : St) : newBlk t (d.val.map vy) (f :: r) = some (.ptr r.length f.blks.length 0, { blks := f.blks ++ [{ ty := t, tk := f.toks.length, cells := d.val.map vy }], toks := f.toks } :: r) := newBlk_plain t (map_plain_y _) f r
theorem dlen (d : Dig) : (d.val.map vy).length = 16 := by rw [List.length_map, d.len]
theorem take_d (d : Dig) : (d.val.map vy).take 16 = d.val.map vy := List.take_of_length_le (by rw [dlen]; omega)
theorem setAt_dd (d e : Dig) : setAt (d.val.map vy) 0 (e.val.map vy) = e.val.map vy := setAt_all _ _ (by rw [dlen, dlen])
theorem dcells_cons (d : Dig) (l : List Dig) : dcells (d :: l) = bcells d.val ++ dcells l := rfl
theorem dcells_app (a b : List Dig) : dcells a ++ dcells b = dcells (a ++ b) := by simp [dcells]
theorem dcells_one (d : Dig) : bcells d.val = dcells [d] := by simp [dcells]
theorem dcells_nil : dcells [] = [] := rfl
theorem dcells_drop (l : List Dig) : ∀ k : Nat, (dcells l).drop (k * 16) = dcells (l.drop k) := by
  induction l with
  | nil => intro k; simp [dcells]
  | cons d l ih =>
    intro k
    cases k with
    | zero => simp
    | succ k =>
      rw [dcells_cons, List.drop_append, List.drop_of_length_le (by rw [bcells_len, d.len]; omega), bcells_len, d.len, show (k + 1) * 16 - 16 = k * 16 by omega, ih]
      rfl
theorem dcells_take (l : List Dig) : ∀ k : Nat, (dcells l).take (k * 16) = dcells (l.take k) := by
  induction l with
  | nil => intro k; simp [dcells]
  | cons d l ih =>
    intro k
    cases k with
    | zero => simp [dcells]
    | succ k =>
      rw [dcells_cons, List.take_append, List.take_of_length_le (by rw [bcells_len, d.len]; omega), bcells_len, d.len, show (k + 1) * 16 - 16 = k * 16 by omega, ih]
      rfl
theorem bcells_av (l : List UInt8) : (bcells l).map DV.av = l.map vy := by simp [bcells, DV.av]
theorem dig_at (l : List Dig) (i : Nat) (h : i < l.length) : (((dcells l).drop (i * 16)).take 16).map DV.av = (l.getD i Dig.zero).val.map vy := by
  rw [dcells_drop, List.drop_eq_getElem_cons h, dcells_cons, List.take_append_of_le_length (by rw [bcells_len, Dig.len]; omega), List.take_of_length_le (by rw [bcells_len, Dig.len]; omega), bcells_av]
  rw [List.getD_eq_getElem?_getD, List.getElem?_eq_getElem h]
  rfl
theorem dig_at0 (l : List Dig) (h : 0 < l.length) : ((dcells l).take 16).map DV.av = (l.getD 0 Dig.zero).val.map vy := by
  have := dig_at l 0 h
  rwa [Nat.zero_mul, List.drop_zero] at this
theorem load_at (l : List Dig) (i : Nat) (s : St) (h : i < l.length) : aLoad (Y0 zb).P 31 (.lptr (dcells l) (i * 16)) s = some (vd (l.getD i Dig.zero)) := by
  rw [ldl31, if_pos (by rw [dcells_len]; omega), dig_at l i h, fold_d]
theorem load_at0 (l : List Dig) (s : St) (h : 0 < l.length) : aLoad (Y0 zb).P 31 (.lptr (dcells l) 0) s = some (vd (l.getD 0 Dig.zero)) := by
  have := load_at (zb := zb) l 0 s h
  rwa [Nat.zero_mul] at this
section
variable {s0 : St}
theorem cv_dig (s : St) (d k : Nat) (b : Blk) (x : Dig) (hb : getBlk s d k = some b) (hc : b.cells = x.val.map vy) : aConvS (Y0 zb).P 73 9 (.msl d k 0 16 16) s = some (vs x.val) := by
  rw [cvm73_9 d k 0 16 16 s b hb x.val (by rw [hc, List.drop_zero, take_d]) (by rw [hc, dlen]; omega)]
theorem F19 (n : Nat) (hn : 2 ^ 52 ≤ n) (a b : Dig) : acall (X0 zb) n 19 [vd a, vd b] s0 = some (vd (nodeD a b), s0) := by
  obtain ⟨n, rfl⟩ : ∃ k, n = k + 1 := ⟨n - 1, by omega⟩
  have c1 := fun S : St => cv_dig (zb := zb) ({ blks := [⟨31, 0, a.val.map vy⟩, ⟨31, 0, b.val.map vy⟩, ⟨31, 0, Dig.zero.val.map vy⟩], toks := [] } :: S) S.length 0 _ a (getBlk_top _ _ _) rfl
  have c2 := fun S : St => cv_dig (zb := zb) ({ blks := [⟨31, 0, a.val.map vy⟩, ⟨31, 0, b.val.map vy⟩, ⟨31, 0, Dig.zero.val.map vy⟩], toks := [] } :: S) S.length 1 _ b (getBlk_top _ _ _) rfl
  have ho := fun S : St => F37 (zb := zb) (s0 := S) n (by omega) 31 .full (.inr rfl) [a.val, b.val] (by
    intro l hl
    simp only [List.mem_cons, List.not_mem_nil, or_false] at hl
    rcases hl with rfl | rfl <;> rw [Dig.len] <;> decide) (by simp)
  simp only [show [a.val, b.val].length = 2 by rfl, scells, List.map_cons, List.map_nil] at ho
  rw [E19, D19]
  simp -implicitDefEqProofs (disch := first | omega | (simp only [rB]; done) | (simp only [rL] <;> omega) | fail) only [↓rP, rO, Int.reduceAdd, Int.reduceSub, Int.reduceMul, Int.reduceNeg, Int.reduceToNat, Int.reduceLT, Int.reduceLE, Int.reduceEq, Nat.reduceAdd, Nat.reduceMul, Nat.reduceSub, Nat.reduceLT, Nat.reduceLeDiff, Nat.reduceEqDiff, rT, rI, box_vd, z16, new_vd, c1, c2, ho, nodeD, parts_vd, dlen, map_fit_y, setAt_dd, take_d, fold_d, outV_vd]
theorem F20 (n : Nat) (hn : 2 ^ 52 ≤ n) (a b : Dig) : acall (X0 zb) n 20 [vd a, vd b] s0 = some (vd (nodeD a b), s0) := by
  obtain ⟨n, rfl⟩ : ∃ k, n = k + 1 := ⟨n - 1, by omega⟩
  have c1 := fun S : St => cv_dig (zb := zb) ({ blks := [⟨31, 0, a.val.map vy⟩, ⟨31, 0, b.val.map vy⟩, ⟨31, 0, Dig.zero.val.map vy⟩], toks := [] } :: S) S.length 0 _ a (getBlk_top _ _ _) rfl
  have c2 := fun S : St => cv_dig (zb := zb) ({ blks := [⟨31, 0, a.val.map vy⟩, ⟨31, 0, b.val.map vy⟩, ⟨31, 0, Dig.zero.val.map vy⟩], toks := [] } :: S) S.length 1 _ b (getBlk_top _ _ _) rfl
  have hp : ∀ l ∈ [a.val, b.val], l.length < 2 ^ 40 := by
    intro l hl
    simp only [List.mem_cons, List.not_mem_nil, or_false] at hl
    rcases hl with rfl | rfl <;> rw [Dig.len] <;> decide
  have w1 := wireBytes_len a.val (by rw [Dig.len]; decide)
  have w2 := wireBytes_len b.val (by rw [Dig.len]; decide)
  have hT : (hashIn 31 [a.val, b.val]).length < 2 ^ 46 := by
    simp only [hashIn, List.flatMap_cons, List.flatMap_nil, List.append_nil, List.length_cons, List.length_append]
    rw [Dig.len] at w1 w2
    omega
  have ho := fun S : St => F41 (zb := zb) (s0 := S) n (by omega) 31 .full (.inr rfl) [a.val, b.val] hp (by simp) hT
  simp only [show [a.val, b.val].length = 2 by rfl, scells, List.map_cons, List.map_nil] at ho
  rw [E20, D20]
  simp -implicitDefEqProofs (disch := first | omega | (simp only [rB]; done) | (simp only [rL] <;> omega) | fail) only [↓rP, rO, Int.reduceAdd, Int.reduceSub, Int.reduceMul, Int.reduceNeg, Int.reduceToNat, Int.reduceLT, Int.reduceLE, Int.reduceEq, Nat.reduceAdd, Nat.reduceMul, Nat.reduceSub, Nat.reduceLT, Nat.reduceLeDiff, Nat.reduceEqDiff, rT, rI, box_vd, z16, new_vd, c1, c2, ho, nodeD, parts_vd, dlen, map_fit_y, setAt_dd, take_d, fold_d, outV_vd]
theorem F14 (n : Nat) (hn : 2 ^ 52 ≤ n) (a : List UInt8) (ha : a.length < 2 ^ 40) : acall (X0 zb) n 14 [vs a] s0 = some (vd (leafD a), s0) := by
  obtain ⟨n, rfl⟩ : ∃ k, n = k + 1 := ⟨n - 1, by omega⟩
  have ho := fun S : St => F37 (zb := zb) (s0 := S) n (by omega) 30 .full (.inr rfl) [a] (by
    intro l hl
    simp only [List.mem_cons, List.not_mem_nil, or_false] at hl
    rw [hl]; exact ha) (by simp)
  simp only [show [a].length = 1 by rfl, scells, List.map_cons, List.map_nil] at ho
  rw [E14, D14]
  simp -implicitDefEqProofs (disch := first | omega | (simp only [rB]; done) | (simp only [rL] <;> omega) | fail) only [↓rP, rO, Int.reduceAdd, Int.reduceSub, Int.reduceMul, Int.reduceNeg, Int.reduceToNat, Int.reduceLT, Int.reduceLE, Int.reduceEq, Nat.reduceAdd, Nat.reduceMul, Nat.reduceSub, Nat.reduceLT, Nat.reduceLeDiff, Nat.reduceEqDiff, rT, rI, z16, new_vd, ho, leafD, parts_vd, dlen, map_fit_y, setAt_dd, take_d, fold_d, outV_vd]
theorem F18 (n : Nat) (hn : 2 ^ 52 ≤ n) (a : List UInt8) (ha : a.length < 2 ^ 40) : acall (X0 zb) n 18 [vs a] s0 = some (vd (leafD a), s0) := by
  obtain ⟨n, rfl⟩ : ∃ k, n = k + 1 := ⟨n - 1, by omega⟩
  have w1 := wireBytes_len a ha
  have ho := fun S : St => F41 (zb := zb) (s0 := S) n (by omega) 30 .full (.inr rfl) [a] (by
    intro l hl
    simp only [List.mem_cons, List.not_mem_nil, or_false] at hl
    rw [hl]; exact ha) (by simp) (by
    simp only [hashIn, List.flatMap_cons, List.flatMap_nil, List.append_nil, List.length_cons]
    omega)
  simp only [show [a].length = 1 by rfl, scells, List.map_cons, List.map_nil] at ho
  rw [E18, D18]
  simp -implicitDefEqProofs (disch := first | omega | (simp only [rB]; done) | (simp only [rL] <;> omega) | fail) only [↓rP, rO, Int.reduceAdd, Int.reduceSub, Int.reduceMul, Int.reduceNeg, Int.reduceToNat, Int.reduceLT, Int.reduceLE, Int.reduceEq, Nat.reduceAdd, Nat.reduceMul, Nat.reduceSub, Nat.reduceLT, Nat.reduceLeDiff, Nat.reduceEqDiff, rT, rI, z16, new_vd, ho, leafD, parts_vd, dlen, map_fit_y, setAt_dd, take_d, fold_d, outV_vd]
theorem F38 (n : Nat) (hn : 2 ^ 52 ≤ n) : acall (X0 zb) n 38 [] s0 = some (vd emptyD, s0) := by
  obtain ⟨n, rfl⟩ : ∃ k, n = k + 1 := ⟨n - 1, by omega⟩
  have ho := fun S : St => F37 (zb := zb) (s0 := S) n (by omega) 32 .full (.inr rfl) [] (by intro l hl; cases hl) (by simp)
  rw [show scells [] = [] by rfl, show ([] : List (List UInt8)).length = 0 by rfl] at ho
  rw [E38, D38]
  simp -implicitDefEqProofs (disch := first | omega | (simp only [rB]; done) | (simp only [rL] <;> omega) | fail) only [↓rP, rO, Int.reduceAdd, Int.reduceSub, Int.reduceMul, Int.reduceNeg, Int.reduceToNat, Int.reduceLT, Int.reduceLE, Int.reduceEq, Nat.reduceAdd, Nat.reduceMul, Nat.reduceSub, Nat.reduceLT, Nat.reduceLeDiff, Nat.reduceEqDiff, rT, rI, z16, new_vd, ho, emptyD, parts_vd, dlen, map_fit_y, setAt_dd, take_d, fold_d, outV_vd]
end
end Go.Proofs.YtnfdepafmmibaaaDoor

/-! Hash trees: split and Root, the program's and the reference's. Conditions: at most 2^20 digests. -/
set_option linter.unusedVariables false
set_option linter.unusedSimpArgs false
set_option maxRecDepth 20000
set_option maxHeartbeats 1000000
namespace Go.Proofs.YtnfdepafmmibaaaDoor
open Go
variable {zb : Bool}
def lenN (x : Nat) : Nat := if x = 0 then 0 else Nat.log2 x + 1
theorem lenN_div (x k : Nat) (h : 2 ^ k ≤ x) : lenN x = lenN (x / 2 ^ k) + k := by
  have hp := Nat.two_pow_pos k
  have hd : 0 < x / 2 ^ k := Nat.div_pos h hp
  have hx : x ≠ 0 := by omega
  unfold lenN
  rw [if_neg hx, if_neg (by omega)]
  have : Nat.log2 x = Nat.log2 (x / 2 ^ k) + k := by
    apply (Nat.log2_eq_iff hx).2
    have h1 := Nat.log2_self_le (n := x / 2 ^ k) (by omega)
    have h2 := Nat.lt_log2_self (n := x / 2 ^ k)
    have h3 : x / 2 ^ k * 2 ^ k ≤ x := Nat.div_mul_le_self _ _
    have h4 : x < (x / 2 ^ k + 1) * 2 ^ k := by
      have := Nat.lt_div_mul_add (a := x) (b := 2 ^ k) hp
      rw [Nat.add_mul]; omega
    constructor
    · rw [Nat.pow_add]
      exact Nat.le_trans (Nat.mul_le_mul_right _ h1) h3
    · rw [show (x / 2 ^ k).log2 + k + 1 = ((x / 2 ^ k).log2 + 1) + k by omega, Nat.pow_add]
      exact Nat.lt_of_lt_of_le h4 (Nat.mul_le_mul_right _ (by omega))
  omega
def tab8 : List UInt8 := (List.range 256).map fun x => UInt8.ofNat (lenN x)
theorem tab8_eq : tab8 = [0, 1, 2, 2, 3, 3, 3, 3, 4, 4, 4, 4, 4, 4, 4, 4, 5, 5, 5, 5, 5, 5, 5, 5, 5, 5, 5, 5, 5, 5, 5, 5, 6, 6, 6, 6, 6, 6, 6, 6, 6, 6, 6, 6, 6, 6, 6, 6, 6, 6, 6, 6, 6, 6, 6, 6, 6, 6, 6, 6, 6, 6, 6, 6, 7, 7, 7, 7, 7, 7, 7, 7, 7, 7, 7, 7, 7, 7, 7, 7, 7, 7, 7, 7, 7, 7, 7, 7, 7, 7, 7, 7, 7, 7, 7, 7, 7, 7, 7, 7, 7, 7, 7, 7, 7, 7, 7, 7, 7, 7, 7, 7, 7, 7, 7, 7, 7, 7, 7, 7, 7, 7, 7, 7, 7, 7, 7, 7, 8, 8, 8, 8, 8, 8, 8, 8, 8, 8, 8, 8, 8, 8, 8, 8, 8, 8, 8, 8, 8, 8, 8, 8, 8, 8, 8, 8, 8, 8, 8, 8, 8, 8, 8, 8, 8, 8, 8, 8, 8, 8, 8, 8, 8, 8, 8, 8, 8, 8, 8, 8, 8, 8, 8, 8, 8, 8, 8, 8, 8, 8, 8, 8, 8, 8, 8, 8, 8, 8, 8, 8, 8, 8, 8, 8, 8, 8, 8, 8, 8, 8, 8, 8, 8, 8, 8, 8, 8, 8, 8, 8, 8, 8, 8, 8, 8, 8, 8, 8, 8, 8, 8, 8, 8, 8, 8, 8, 8, 8, 8, 8, 8, 8, 8, 8, 8, 8, 8, 8, 8, 8, 8, 8, 8, 8, 8, 8] := by kernel_rfl
theorem lenN_small (x : Nat) (h : x < 256) : lenN x ≤ 8 := by
  unfold lenN
  split
  · omega
  · rename_i hx
    have := (Nat.log2_lt hx).2 (show x < 2 ^ 8 from h)
    omega
section
variable {s0 : St}
theorem tab8_at (x : Nat) (h : x < 256) : aIndex (Y0 zb).P 9 (vs tab8) (vy (UInt8.ofNat x)) = some (vy (UInt8.ofNat (lenN x))) := by
  have hx : (UInt8.ofNat x).toNat = x := by rw [UInt8.toNat_ofNat']; omega
  apply ixs9 tab8 .u8 _ (by omega) (UInt8.ofNat (lenN x))
  rw [Int.toNat_natCast, hx, tab8, List.getElem?_map, List.getElem?_range h]
  rfl
theorem lenN_conv (x : Nat) (h : x < 256) : IntKind.wrap .i64 ((UInt8.ofNat (lenN x)).toNat : Int) = (lenN x : Int) := by
  have := lenN_small x h
  have h2 : (UInt8.ofNat (lenN x)).toNat = lenN x := by rw [UInt8.toNat_ofNat']; omega
  rw [h2, wi_id (by omega) (by omega)]
theorem F75 (n : Nat) (hn : 1 ≤ n) (x : Nat) (hx : x < 2 ^ 64) : acall (X0 zb) n 75 [vq x] s0 = some (vi (lenN x), s0) := by
  obtain ⟨n, rfl⟩ : ∃ k, n = k + 1 := ⟨n - 1, by omega⟩
  rw [E75, D75]
  rw [← tab8_eq]
  simp only []
  have g32 : ∀ z : Nat, aBin (Y0 zb).P .shr 42 (vq z) (vq 32) = some (vq (z / 2 ^ 32)) := fun z => q_shr _ _ _ _ 32 (by decide)
  have g16 : ∀ z : Nat, aBin (Y0 zb).P .shr 42 (vq z) (vq 16) = some (vq (z / 2 ^ 16)) := fun z => q_shr _ _ _ _ 16 (by decide)
  have g8 : ∀ z : Nat, aBin (Y0 zb).P .shr 42 (vq z) (vq 8) = some (vq (z / 2 ^ 8)) := fun z => q_shr _ _ _ _ 8 (by decide)
  by_cases h1 : 2 ^ 32 ≤ x
  · rw [lenN_div x 32 h1]
    generalize hy : x / 2 ^ 32 = y at *
    have hyl : y < 2 ^ 32 := by omega
    by_cases h2 : 2 ^ 16 ≤ y
    · rw [lenN_div y 16 h2]
      generalize hz : y / 2 ^ 16 = z at *
      have hzl : z < 2 ^ 16 := by omega
      by_cases h3 : 2 ^ 8 ≤ z
      · rw [lenN_div z 8 h3]
        generalize hu : z / 2 ^ 8 = u at *
        have hul : u < 256 := by omega
        have hc := lenN_small u hul
        simp -implicitDefEqProofs (disch := first | omega | (simp only [rB]; done) | (simp only [rL] <;> omega) | fail) only [↓rP, rO, Int.reduceAdd, Int.reduceSub, Int.reduceMul, Int.reduceNeg, Int.reduceToNat, Int.reduceLT, Int.reduceLE, Int.reduceEq, Nat.reduceAdd, Nat.reduceMul, Nat.reduceSub, Nat.reduceLT, Nat.reduceLeDiff, Nat.reduceEqDiff, rT, rI, g32, g16, g8, hy, hz, hu, conv_q8, tab8_at u hul, lenN_conv u hul]
        refine congrArg (fun z : Int => (some (vi z, s0) : Option (AV × St))) ?_; omega
      · have hzl : z < 256 := by omega
        have hc := lenN_small z hzl
        simp -implicitDefEqProofs (disch := first | omega | (simp only [rB]; done) | (simp only [rL] <;> omega) | fail) only [↓rP, rO, Int.reduceAdd, Int.reduceSub, Int.reduceMul, Int.reduceNeg, Int.reduceToNat, Int.reduceLT, Int.reduceLE, Int.reduceEq, Nat.reduceAdd, Nat.reduceMul, Nat.reduceSub, Nat.reduceLT, Nat.reduceLeDiff, Nat.reduceEqDiff, rT, rI, g32, g16, g8, hy, hz, conv_q8, tab8_at z hzl, lenN_conv z hzl]
        refine congrArg (fun z : Int => (some (vi z, s0) : Option (AV × St))) ?_; omega
    · by_cases h3 : 2 ^ 8 ≤ y
      · rw [lenN_div y 8 h3]
        generalize hu : y / 2 ^ 8 = u at *
        have hul : u < 256 := by omega
        have hc := lenN_small u hul
        simp -implicitDefEqProofs (disch := first | omega | (simp only [rB]; done) | (simp only [rL] <;> omega) | fail) only [↓rP, rO, Int.reduceAdd, Int.reduceSub, Int.reduceMul, Int.reduceNeg, Int.reduceToNat, Int.reduceLT, Int.reduceLE, Int.reduceEq, Nat.reduceAdd, Nat.reduceMul, Nat.reduceSub, Nat.reduceLT, Nat.reduceLeDiff, Nat.reduceEqDiff, rT, rI, g32, g16, g8, hy, hu, conv_q8, tab8_at u hul, lenN_conv u hul]
        refine congrArg (fun z : Int => (some (vi z, s0) : Option (AV × St))) ?_; omega
      · have hzl : y < 256 := by omega
        have hc := lenN_small y hzl
        simp -implicitDefEqProofs (disch := first | omega | (simp only [rB]; done) | (simp only [rL] <;> omega) | fail) only [↓rP, rO, Int.reduceAdd, Int.reduceSub, Int.reduceMul, Int.reduceNeg, Int.reduceToNat, Int.reduceLT, Int.reduceLE, Int.reduceEq, Nat.reduceAdd, Nat.reduceMul, Nat.reduceSub, Nat.reduceLT, Nat.reduceLeDiff, Nat.reduceEqDiff, rT, rI, g32, g16, g8, hy, conv_q8, tab8_at y hzl, lenN_conv y hzl]
        refine congrArg (fun z : Int => (some (vi z, s0) : Option (AV × St))) ?_; omega
  · by_cases h2 : 2 ^ 16 ≤ x
    · rw [lenN_div x 16 h2]
      generalize hz : x / 2 ^ 16 = z at *
      have hzl : z < 2 ^ 16 := by omega
      by_cases h3 : 2 ^ 8 ≤ z
      · rw [lenN_div z 8 h3]
        generalize hu : z / 2 ^ 8 = u at *
        have hul : u < 256 := by omega
        have hc := lenN_small u hul
        simp -implicitDefEqProofs (disch := first | omega | (simp only [rB]; done) | (simp only [rL] <;> omega) | fail) only [↓rP, rO, Int.reduceAdd, Int.reduceSub, Int.reduceMul, Int.reduceNeg, Int.reduceToNat, Int.reduceLT, Int.reduceLE, Int.reduceEq, Nat.reduceAdd, Nat.reduceMul, Nat.reduceSub, Nat.reduceLT, Nat.reduceLeDiff, Nat.reduceEqDiff, rT, rI, g32, g16, g8, hz, hu, conv_q8, tab8_at u hul, lenN_conv u hul]
        refine congrArg (fun z : Int => (some (vi z, s0) : Option (AV × St))) ?_; omega
      · have hzl : z < 256 := by omega
        have hc := lenN_small z hzl
        simp -implicitDefEqProofs (disch := first | omega | (simp only [rB]; done) | (simp only [rL] <;> omega) | fail) only [↓rP, rO, Int.reduceAdd, Int.reduceSub, Int.reduceMul, Int.reduceNeg, Int.reduceToNat, Int.reduceLT, Int.reduceLE, Int.reduceEq, Nat.reduceAdd, Nat.reduceMul, Nat.reduceSub, Nat.reduceLT, Nat.reduceLeDiff, Nat.reduceEqDiff, rT, rI, g32, g16, g8, hz, conv_q8, tab8_at z hzl, lenN_conv z hzl]
        refine congrArg (fun z : Int => (some (vi z, s0) : Option (AV × St))) ?_; omega
    · by_cases h3 : 2 ^ 8 ≤ x
      · rw [lenN_div x 8 h3]
        generalize hu : x / 2 ^ 8 = u at *
        have hul : u < 256 := by omega
        have hc := lenN_small u hul
        simp -implicitDefEqProofs (disch := first | omega | (simp only [rB]; done) | (simp only [rL] <;> omega) | fail) only [↓rP, rO, Int.reduceAdd, Int.reduceSub, Int.reduceMul, Int.reduceNeg, Int.reduceToNat, Int.reduceLT, Int.reduceLE, Int.reduceEq, Nat.reduceAdd, Nat.reduceMul, Nat.reduceSub, Nat.reduceLT, Nat.reduceLeDiff, Nat.reduceEqDiff, rT, rI, g32, g16, g8, hu, conv_q8, tab8_at u hul, lenN_conv u hul]
        refine congrArg (fun z : Int => (some (vi z, s0) : Option (AV × St))) ?_; omega
      · have hzl : x < 256 := by omega
        have hc := lenN_small x hzl
        simp -implicitDefEqProofs (disch := first | omega | (simp only [rB]; done) | (simp only [rL] <;> omega) | fail) only [↓rP, rO, Int.reduceAdd, Int.reduceSub, Int.reduceMul, Int.reduceNeg, Int.reduceToNat, Int.reduceLT, Int.reduceLE, Int.reduceEq, Nat.reduceAdd, Nat.reduceMul, Nat.reduceSub, Nat.reduceLT, Nat.reduceLeDiff, Nat.reduceEqDiff, rT, rI, g32, g16, g8, conv_q8, tab8_at x hzl, lenN_conv x hzl]
theorem F59 (n : Nat) (hn : 2 ≤ n) (x : Nat) (hx : x < 2 ^ 64) : acall (X0 zb) n 59 [vq x] s0 = some (vi (lenN x), s0) := by
  obtain ⟨n, rfl⟩ : ∃ k, n = k + 1 := ⟨n - 1, by omega⟩
  rw [E59, D59]
  simp -implicitDefEqProofs (disch := first | omega | (simp only [rB]; done) | (simp only [rL] <;> omega) | fail) only [↓rP, rO, Int.reduceAdd, Int.reduceSub, Int.reduceMul, Int.reduceNeg, Int.reduceToNat, Int.reduceLT, Int.reduceLE, Int.reduceEq, Nat.reduceAdd, Nat.reduceMul, Nat.reduceSub, Nat.reduceLT, Nat.reduceLeDiff, Nat.reduceEqDiff, rT, rI, F75]
theorem F33 (n : Nat) (hn : 3 ≤ n) (k : Nat) (h : 2 ≤ k) (h2 : k < 2 ^ 41) : acall (X0 zb) n 33 [vi k] s0 = some (vi (splitN k), s0) := by
  obtain ⟨n, rfl⟩ : ∃ k, n = k + 1 := ⟨n - 1, by omega⟩
  rw [E33, D33]
  have e1 : (k : Int) - 1 = ((k - 1 : Nat) : Int) := by omega
  have hl : lenN (k - 1) = Nat.log2 (k - 1) + 1 := by rw [lenN, if_neg (by omega)]
  have e2 : ((Nat.log2 (k - 1) + 1 : Nat) : Int) - 1 = ((Nat.log2 (k - 1) : Nat) : Int) := by omega
  have hb : Nat.log2 (k - 1) < 41 := (Nat.log2_lt (by omega)).2 (by omega)
  have hp : 2 ^ Nat.log2 (k - 1) ≤ k - 1 := Nat.log2_self_le (by omega)
  have e3 : aBin (Y0 zb).P .shl 3 (vi 1) (vi ((Nat.log2 (k - 1) : Nat) : Int)) = some (vi (splitN k)) := by
    rw [b_shl _ _ _ _ _ _ (by omega)]
    have e : min (((Nat.log2 (k - 1) : Nat) : Int).toNat) (IntKind.bits .i64) = Nat.log2 (k - 1) := by simp [IntKind.bits]; omega
    have hs := splitN_lt h
    rw [e, Int.one_mul, show ((2 : Int) ^ Nat.log2 (k - 1)) = ((splitN k : Nat) : Int) by simp [splitN], wi_id (by omega) (by omega)]
  simp -implicitDefEqProofs (disch := first | omega | (simp only [rB]; done) | (simp only [rL] <;> omega) | fail) only [↓rP, rO, Int.reduceAdd, Int.reduceSub, Int.reduceMul, Int.reduceNeg, Int.reduceToNat, Int.reduceLT, Int.reduceLE, Int.reduceEq, Nat.reduceAdd, Nat.reduceMul, Nat.reduceSub, Nat.reduceLT, Nat.reduceLeDiff, Nat.reduceEqDiff, rT, rI, e1, wq_id, F59, hl, e2, e3]
theorem F15 (len : Nat) : len < 2 ^ 20 → ∀ (n : Nat) (hn : 2 ^ 53 + len ≤ n) (tag : Tag) (l : List Dig) (hl : l.length = len) (s0 : St), acall (X0 zb) n 15 [.list tag len (dcells l)] s0 = some (vd (rootD l), s0) := by
  induction len using Nat.strongRecOn with
  | _ len ih =>
  intro hb n hn tag l hl s0
  obtain ⟨n, rfl⟩ : ∃ k, n = k + 1 := ⟨n - 1, by omega⟩
  have hd := dcells_len l
  rw [E15, D15]
  by_cases h0 : len = 0
  · rw [rootD_0 (by omega)]
    simp -implicitDefEqProofs (disch := first | omega | (simp only [rB]; done) | (simp only [rL] <;> omega) | fail) only [↓rP, rO, Int.reduceAdd, Int.reduceSub, Int.reduceMul, Int.reduceNeg, Int.reduceToNat, Int.reduceLT, Int.reduceLE, Int.reduceEq, Nat.reduceAdd, Nat.reduceMul, Nat.reduceSub, Nat.reduceLT, Nat.reduceLeDiff, Nat.reduceEqDiff, rT, rI, z16, new_vd, F38, parts_vd, dlen, map_fit_y, setAt_dd, take_d, fold_d, outV_vd]
  · by_cases h1 : len = 1
    · rw [rootD_1 (by omega)]
      simp -implicitDefEqProofs (disch := first | omega | (simp only [rB]; done) | (simp only [rL] <;> omega) | fail) only [↓rP, rO, Int.reduceAdd, Int.reduceSub, Int.reduceMul, Int.reduceNeg, Int.reduceToNat, Int.reduceLT, Int.reduceLE, Int.reduceEq, Nat.reduceAdd, Nat.reduceMul, Nat.reduceSub, Nat.reduceLT, Nat.reduceLeDiff, Nat.reduceEqDiff, rT, rI, z16, new_vd, dig_at0, Nat.zero_mul, parts_vd, dlen, map_fit_y, setAt_dd, take_d, fold_d, outV_vd]
    · have hs1 := splitN_lt (n := len) (by omega)
      have hs0 := splitN_pos len
      rw [rootD_2 (by omega), hl]
      have r1 := fun S => ih (splitN len) hs1 (by omega) n (by omega) .full (l.take (splitN len)) (by rw [List.length_take]; omega) S
      have r2 := fun S => ih (len - splitN len) (by omega) (by omega) n (by omega) .full (l.drop (splitN len)) (by rw [List.length_drop]; omega) S
      have e2 : ((dcells l).drop (splitN len * 16)).take ((len - splitN len) * 16) = dcells (l.drop (splitN len)) := by
        rw [dcells_drop, List.take_of_length_le (by rw [dcells_len, List.length_drop]; omega)]
      simp -implicitDefEqProofs (disch := first | omega | (simp only [rB]; done) | (simp only [rL] <;> omega) | fail) only [↓rP, rO, Int.reduceAdd, Int.reduceSub, Int.reduceMul, Int.reduceNeg, Int.reduceToNat, Int.reduceLT, Int.reduceLE, Int.reduceEq, Nat.reduceAdd, Nat.reduceMul, Nat.reduceSub, Nat.reduceLT, Nat.reduceLeDiff, Nat.reduceEqDiff, rT, rI, z16, new_vd, F33, dcells_take, e2, r1, r2, F19, parts_vd, dlen, map_fit_y, setAt_dd, take_d, fold_d, outV_vd]
end
end Go.Proofs.YtnfdepafmmibaaaDoor

/-! Hash trees: the proof of an element, the program's and the reference's. Conditions: at most 2^20 digests. -/
set_option linter.unusedVariables false
set_option linter.unusedSimpArgs false
set_option maxRecDepth 20000
set_option maxHeartbeats 1000000
namespace Go.Proofs.YtnfdepafmmibaaaDoor
open Go
variable {zb : Bool}
/-! ### Frames below -/
theorem getFr_pre (pre s : St) (d : Nat) (h : d < s.length) : getFr (pre ++ s) d = getFr s d := by
  induction pre with
  | nil => rfl
  | cons f pre ih =>
    rw [List.cons_append, getFr, if_neg (by rw [List.length_append]; omega), ih]
theorem setFr_pre (pre s : St) (d : Nat) (g : Frm) (h : d < s.length) : setFr (pre ++ s) d g = pre ++ setFr s d g := by
  induction pre with
  | nil => rfl
  | cons f pre ih =>
    rw [List.cons_append, setFr, if_neg (by rw [List.length_append]; omega), ih]
    rfl
theorem getBlk_pre (pre : St) (f : Frm) (s : St) (k : Nat) : getBlk (pre ++ f :: s) s.length k = f.blks[k]? := by
  rw [getBlk, getFr_pre _ _ _ (by simp)]
  exact getBlk_top f s k
theorem getTok_pre (pre : St) (f : Frm) (s : St) (k : Nat) : getTok (pre ++ f :: s) s.length k = f.toks[k]? := by
  rw [getTok, getFr_pre _ _ _ (by simp)]
  exact getTok_top f s k
theorem setBlk_pre (pre : St) (f : Frm) (s : St) (k : Nat) (b : Blk) : setBlk (pre ++ f :: s) s.length k b = pre ++ { f with blks := f.blks.set k b } :: s := by
  rw [setBlk, getFr_pre _ _ _ (by simp)]
  simp [getFr, setFr_pre, setFr]
theorem setTok_pre (pre : St) (f : Frm) (s : St) (k n : Nat) : setTok (pre ++ f :: s) s.length k n = pre ++ { f with toks := f.toks.set k n } :: s := by
  rw [setTok, getFr_pre _ _ _ (by simp)]
  simp [getFr, setFr_pre, setFr]
theorem getBlk_top3 (F : Frm) (pre : St) (G : Frm) (s : St) (k : Nat) : getBlk (F :: (pre ++ G :: s)) (pre.length + (s.length + 1)) k = F.blks[k]? := by
  have := getBlk_top F (pre ++ G :: s) k
  simpa only [List.length_append, List.length_cons] using this
theorem setBlk_top3 (F : Frm) (pre : St) (G : Frm) (s : St) (k : Nat) (b : Blk) : setBlk (F :: (pre ++ G :: s)) (pre.length + (s.length + 1)) k b = { F with blks := F.blks.set k b } :: (pre ++ G :: s) := by
  have := setBlk_top F (pre ++ G :: s) k b
  simpa only [List.length_append, List.length_cons] using this
theorem grow_pre (F : Frm) (pre : St) (G : Frm) (s : St) (k n m : Nat) (h : G.toks[k]? = some n) : growTok (F :: (pre ++ G :: s)) (.own s.length k) n m = some (.own s.length k, F :: (pre ++ { G with toks := G.toks.set k (n + m) } :: s)) := by
  rw [grow_own _ _ _ _ _ (by rw [getTok_low _ _ _ _ (by simp; omega), getTok_pre]; exact h), setTok_low _ _ _ _ _ (by simp; omega), setTok_pre]
/-! ### New blocks with lists -/
theorem newBlk_def (t : TypeId) (cs : List AV) (f : Frm) (r : St) :
    newBlk t cs (f :: r) = some (.ptr r.length f.blks.length 0, { blks := f.blks ++ [{ ty := t, tk := (tokCells r.length cs f.toks).2.length, cells := (tokCells r.length cs f.toks).1.map (fit r.length f.blks.length (tokCells r.length cs f.toks).2.length) }], toks := (tokCells r.length cs f.toks).2 } :: r) := rfl
theorem tok_nil (d : Nat) (ts : List Nat) : tokCells d [] ts = ([], ts) := rfl
theorem tok_full (d : Nat) (r : List AV) (ts : List Nat) : tokCells d (.list .full 0 [] :: r) ts = (.list (.own d ts.length) 0 [] :: (tokCells d r (ts ++ [0])).1, (tokCells d r (ts ++ [0])).2) := rfl
theorem tok_v (d : Nat) (x : Value) (r : List AV) (ts : List Nat) : tokCells d (.v x :: r) ts = (.v x :: (tokCells d r ts).1, (tokCells d r ts).2) := rfl
theorem fit_own (d k tk d' k' n : Nat) (cs : List DV) (h : d' < d ∨ d' = d ∧ k' < tk) : fit d k tk (.list (.own d' k') n cs) = .list (.own d' k') n cs := if_pos h
theorem fit_full (d k tk n : Nat) (cs : List DV) : fit d k tk (.list .full n cs) = .list .full n cs := rfl
theorem fit_none (d k tk n : Nat) (cs : List DV) : fit d k tk (.list .none n cs) = .list .none n cs := rfl
theorem fit_fn2 (d k tk : Nat) (g : FuncId) (d1 k1 d2 k2 : Nat) (h1 : d1 < d ∨ d1 = d ∧ k1 ≤ k) (h2 : d2 < d ∨ d2 = d ∧ k2 ≤ k) : fit d k tk (.fn g [.ptr d1 k1 0, .ptr d2 k2 0]) = .fn g [.ptr d1 k1 0, .ptr d2 k2 0] := by
  simp [fit, refOk, capOk, h1, h2]
theorem aFunc_def (f : FuncId) (caps : List AV) : aFunc (.func f) [] caps = some (.fn f caps) := rfl
theorem bsd (d : Dig) : aBuildSlice (Y0 zb).P 22 1 [(0, vd d)] = some (.list .full 1 (dcells [d])) := by
  have hz : zCells (Y0 zb).P 31 = some (List.replicate 16 (vy 0)) := z31
  have e1 : setAt (repl (List.replicate 16 (vy 0)) 1) (0 * 16) (d.val.map vy) = d.val.map vy := setAt_all _ _ (by rw [dlen]; rfl)
  have e2 : dvs (d.val.map vy) = some (dcells [d]) := by
    rw [dvs_map (fun b : UInt8 => Value.int .u8 (b.toNat : Int)) d.val, ← dcells_one]; rfl
  unfold aBuildSlice
  simp only [U22, hz, C31]
  rw [if_pos (by decide)]
  simp only [aFill, parts_vd]
  rw [if_pos ⟨dlen d, by decide⟩, e1]
  simp only [Option.bind_some, e2, Option.map_some]
/-! ### The program's Inclusion -/
abbrev inst (s0 : St) (p : List Dig) : St :=
  { blks := [⟨22, 2, [.list (.own s0.length 1) p.length (dcells p)]⟩, ⟨64, 2, [.fn 32 [.ptr s0.length 1 0, .ptr s0.length 0 0]]⟩], toks := [0, p.length] } :: s0
theorem F32 (s0 : St) (len : Nat) : 0 < len → len < 2 ^ 20 → ∀ (n : Nat) (hn : 2 ^ 54 + len ≤ n) (tag : Tag) (l : List Dig) (hl : l.length = len) (i : Nat) (hi : i < len) (p : List Dig) (hp : p.length + len < 2 ^ 21) (pre : St),
    acall (X0 zb) n 32 [.list tag len (dcells l), vi i, .ptr s0.length 1 0, .ptr s0.length 0 0] (pre ++ inst s0 p) = some (.tuple [], pre ++ inst s0 (p ++ inclD l i)) := by
  induction len using Nat.strongRecOn with
  | _ len ih =>
  intro hpos hb n hn tag l hl i hi p hp pre
  obtain ⟨n, rfl⟩ : ∃ k, n = k + 1 := ⟨n - 1, by omega⟩
  have hd := dcells_len l
  rw [E32, D32]
  by_cases h1 : len = 1
  · rw [inclD_1 (by omega)]
    simp -implicitDefEqProofs (disch := first | omega | (simp only [rB]; done) | (simp only [rL] <;> omega) | fail) only [↓rP, rO, Int.reduceAdd, Int.reduceSub, Int.reduceMul, Int.reduceNeg, Int.reduceToNat, Int.reduceLT, Int.reduceLE, Int.reduceEq, Nat.reduceAdd, Nat.reduceMul, Nat.reduceSub, Nat.reduceLT, Nat.reduceLeDiff, Nat.reduceEqDiff, rT, rI]
  · have hs1 := splitN_lt (n := len) (by omega)
    have hs0 := splitN_pos len
    have q1 := fun S tag => F15 (zb := zb) (splitN len) (by omega) n (by omega) tag (l.take (splitN len)) (by rw [List.length_take]; omega) S
    have q2 := fun S tag => F15 (zb := zb) (len - splitN len) (by omega) n (by omega) tag (l.drop (splitN len)) (by rw [List.length_drop]; omega) S
    have hS : ∀ S, acall (X0 zb) n 33 [vi len] S = some (vi (splitN len), S) := fun S => F33 (zb := zb) (s0 := S) n (by omega) len (by omega) (by omega)
    by_cases hlo : i < splitN len
    · have r1 := fun F tag => ih (splitN len) hs1 hs0 (by omega) n (by omega) tag (l.take (splitN len)) (by rw [List.length_take]; omega) i hlo p (by omega) (F :: pre)
      simp only [List.cons_append] at r1
      rw [inclD_lo (by omega) (by rw [hl]; exact hlo), hl, ← List.append_assoc]
      have hil : (p ++ inclD (l.take (splitN len)) i).length < 2 ^ 40 := by
        have := inclD_len (splitN len) (l.take (splitN len)) i (by rw [List.length_take]; omega)
        rw [List.length_append]; omega
      generalize p ++ inclD (l.take (splitN len)) i = q at *
      have hql := dcells_len q
      have hqa : (q ++ [rootD (l.drop (splitN len))]).length = q.length + 1 := by simp
      simp -implicitDefEqProofs (disch := first | omega | (simp only [rB]; done) | (simp only [rL] <;> omega) | fail) only [↓rP, rO, Int.reduceAdd, Int.reduceSub, Int.reduceMul, Int.reduceNeg, Int.reduceToNat, Int.reduceLT, Int.reduceLE, Int.reduceEq, Nat.reduceAdd, Nat.reduceMul, Nat.reduceSub, Nat.reduceLT, Nat.reduceLeDiff, Nat.reduceEqDiff, rT, rI, hS, getBlk_pre, setBlk_pre, getTok_pre, setTok_pre, r1, q1, q2, z16, new_vd, box_vd, parts_vd, dlen, map_fit_y, setAt_dd, take_d, fold_d, outV_vd, keep_vd, dcells_take, dcells_drop, dcells_app, bsd, hqa, fit_own, grow_pre, inst]
    · have r2 := fun F tag => ih (len - splitN len) (by omega) (by omega) (by omega) n (by omega) tag (l.drop (splitN len)) (by rw [List.length_drop]; omega) (i - splitN len) (by omega) p (by omega) (F :: pre)
      have ei : ((i - splitN len : Nat) : Int) = (i : Int) - (splitN len : Int) := by omega
      simp only [List.cons_append, ei] at r2
      rw [inclD_hi (by omega) (by rw [hl]; exact hlo), hl, ← List.append_assoc]
      have hil : (p ++ inclD (l.drop (splitN len)) (i - splitN len)).length < 2 ^ 40 := by
        have := inclD_len (len - splitN len) (l.drop (splitN len)) (i - splitN len) (by rw [List.length_drop]; omega)
        rw [List.length_append]; omega
      generalize p ++ inclD (l.drop (splitN len)) (i - splitN len) = q at *
      have hql := dcells_len q
      have hqa : (q ++ [rootD (l.take (splitN len))]).length = q.length + 1 := by simp
      simp -implicitDefEqProofs (disch := first | omega | (simp only [rB]; done) | (simp only [rL] <;> omega) | fail) only [↓rP, rO, Int.reduceAdd, Int.reduceSub, Int.reduceMul, Int.reduceNeg, Int.reduceToNat, Int.reduceLT, Int.reduceLE, Int.reduceEq, Nat.reduceAdd, Nat.reduceMul, Nat.reduceSub, Nat.reduceLT, Nat.reduceLeDiff, Nat.reduceEqDiff, rT, rI, hS, getBlk_pre, setBlk_pre, getTok_pre, setTok_pre, r2, q1, q2, z16, new_vd, box_vd, parts_vd, dlen, map_fit_y, setAt_dd, take_d, fold_d, outV_vd, keep_vd, dcells_take, dcells_drop, dcells_app, bsd, hqa, fit_own, grow_pre, inst]
def inclE (l : List Dig) (i : Int) : List Dig × Int := if i < 0 ∨ (l.length : Int) ≤ i then ([], 1) else (inclD l i.toNat, 0)
theorem F10 (s0 : St) (n : Nat) (hn : 2 ^ 55 ≤ n) (tag : Tag) (l : List Dig) (hl : l.length < 2 ^ 20) (i : Int) (hi : -9223372036854775808 ≤ i) (hi2 : i < 9223372036854775808) :
    acall (X0 zb) n 10 [.list tag l.length (dcells l), vi i] s0 = some (.tuple [.list .none (inclE l i).1.length (dcells (inclE l i).1), vi (inclE l i).2], s0) := by
  obtain ⟨n, rfl⟩ : ∃ k, n = k + 1 := ⟨n - 1, by omega⟩
  rw [E10, D10]
  by_cases h0 : i < 0
  · have e : inclE l i = ([], 1) := if_pos (.inl h0)
    rw [e]
    simp -implicitDefEqProofs (disch := first | omega | (simp only [rB]; done) | (simp only [rL] <;> omega) | fail) only [↓rP, rO, Int.reduceAdd, Int.reduceSub, Int.reduceMul, Int.reduceNeg, Int.reduceToNat, Int.reduceLT, Int.reduceLE, Int.reduceEq, Nat.reduceAdd, Nat.reduceMul, Nat.reduceSub, Nat.reduceLT, Nat.reduceLeDiff, Nat.reduceEqDiff, rT, rI, outV_own]
    rfl
  · by_cases h1 : (l.length : Int) ≤ i
    · have e : inclE l i = ([], 1) := if_pos (.inr h1)
      rw [e]
      simp -implicitDefEqProofs (disch := first | omega | (simp only [rB]; done) | (simp only [rL] <;> omega) | fail) only [↓rP, rO, Int.reduceAdd, Int.reduceSub, Int.reduceMul, Int.reduceNeg, Int.reduceToNat, Int.reduceLT, Int.reduceLE, Int.reduceEq, Nat.reduceAdd, Nat.reduceMul, Nat.reduceSub, Nat.reduceLT, Nat.reduceLeDiff, Nat.reduceEqDiff, rT, rI, outV_own]
      rfl
    · have e : inclE l i = (inclD l i.toNat, 0) := if_neg (by omega)
      rw [e]
      obtain ⟨k, rfl⟩ : ∃ k : Nat, i = k := ⟨i.toNat, by omega⟩
      have h := F32 (zb := zb) s0 l.length (by omega) hl n (by omega) tag l rfl k (by omega) [] (by simp; omega) []
      simp only [List.nil_append, inst, List.length_nil, dcells_nil] at h
      simp -implicitDefEqProofs (disch := first | omega | (simp only [rB]; done) | (simp only [rL] <;> omega) | fail) only [↓rP, rO, Int.reduceAdd, Int.reduceSub, Int.reduceMul, Int.reduceNeg, Int.reduceToNat, Int.reduceLT, Int.reduceLE, Int.reduceEq, Nat.reduceAdd, Nat.reduceMul, Nat.reduceSub, Nat.reduceLT, Nat.reduceLeDiff, Nat.reduceEqDiff, rT, rI, newBlk_def, tok_nil, tok_full, tok_v, fit_own, fit_full, fit_none, outV_own, fit_fn2, aFunc_def, h]
end Go.Proofs.YtnfdepafmmibaaaDoor

/-! Hash trees: the proof of a beginning, the program's and the reference's. Conditions: at most 2^20 digests. -/
set_option linter.unusedVariables false
set_option linter.unusedSimpArgs false
set_option maxRecDepth 20000
set_option maxHeartbeats 1000000
namespace Go.Proofs.YtnfdepafmmibaaaDoor
open Go
variable {zb : Bool}
abbrev const (s0 : St) (p : List Dig) : St :=
  { blks := [⟨22, 2, [.list (.own s0.length 1) p.length (dcells p)]⟩, ⟨66, 2, [.fn 34 [.ptr s0.length 0 0, .ptr s0.length 1 0]]⟩], toks := [0, p.length] } :: s0
theorem F34 (s0 : St) (len : Nat) : len < 2 ^ 20 → ∀ (n : Nat) (hn : 2 ^ 54 + len ≤ n) (tag : Tag) (l : List Dig) (hl : l.length = len) (m : Nat) (hm0 : 0 < m) (hm : m ≤ len) (mark : Bool) (p : List Dig) (hp : p.length + len < 2 ^ 21) (pre : St),
    acall (X0 zb) n 34 [.list tag len (dcells l), vi m, vb mark, .ptr s0.length 0 0, .ptr s0.length 1 0] (pre ++ const s0 p) = some (.tuple [], pre ++ const s0 (p ++ consD l m mark)) := by
  induction len using Nat.strongRecOn with
  | _ len ih =>
  intro hb n hn tag l hl m hm0 hm mark p hp pre
  obtain ⟨n, rfl⟩ : ∃ k, n = k + 1 := ⟨n - 1, by omega⟩
  have hd := dcells_len l
  rw [E34, D34]
  by_cases h1 : m = len
  · have q0 := fun S tag => F15 (zb := zb) len (by omega) n (by omega) tag l hl S
    subst h1
    have e := consD_all (l := l) (mark := mark)
    rw [hl] at e
    rw [e]
    cases mark with
    | true =>
      simp -implicitDefEqProofs (disch := first | omega | (simp only [rB]; done) | (simp only [rL] <;> omega) | fail) only [↓rP, rO, Int.reduceAdd, Int.reduceSub, Int.reduceMul, Int.reduceNeg, Int.reduceToNat, Int.reduceLT, Int.reduceLE, Int.reduceEq, Nat.reduceAdd, Nat.reduceMul, Nat.reduceSub, Nat.reduceLT, Nat.reduceLeDiff, Nat.reduceEqDiff, rT, rI, List.append_nil]
    | false =>
      have hql := dcells_len p
      have hqa : (p ++ [rootD l]).length = p.length + 1 := by simp
      simp -implicitDefEqProofs (disch := first | omega | (simp only [rB]; done) | (simp only [rL] <;> omega) | fail) only [↓rP, rO, Int.reduceAdd, Int.reduceSub, Int.reduceMul, Int.reduceNeg, Int.reduceToNat, Int.reduceLT, Int.reduceLE, Int.reduceEq, Nat.reduceAdd, Nat.reduceMul, Nat.reduceSub, Nat.reduceLT, Nat.reduceLeDiff, Nat.reduceEqDiff, rT, rI, getBlk_pre, setBlk_pre, getTok_pre, setTok_pre, q0, z16, new_vd, box_vd, parts_vd, dlen, map_fit_y, setAt_dd, take_d, fold_d, outV_vd, keep_vd, dcells_take, dcells_drop, dcells_app, bsd, hqa, fit_own, grow_pre, const]
  · have hs1 := splitN_lt (n := len) (by omega)
    have hs0 := splitN_pos len
    have q1 := fun S tag => F15 (zb := zb) (splitN len) (by omega) n (by omega) tag (l.take (splitN len)) (by rw [List.length_take]; omega) S
    have q2 := fun S tag => F15 (zb := zb) (len - splitN len) (by omega) n (by omega) tag (l.drop (splitN len)) (by rw [List.length_drop]; omega) S
    have hS : ∀ S, acall (X0 zb) n 33 [vi len] S = some (vi (splitN len), S) := fun S => F33 (zb := zb) (s0 := S) n (by omega) len (by omega) (by omega)
    by_cases hlo : m ≤ splitN len
    · have r1 := fun F tag => ih (splitN len) hs1 (by omega) n (by omega) tag (l.take (splitN len)) (by rw [List.length_take]; omega) m hm0 hlo mark p (by omega) (F :: pre)
      simp only [List.cons_append] at r1
      rw [consD_lo (by omega) (by omega) (by rw [hl]; exact hlo), hl, ← List.append_assoc]
      have hil : (p ++ consD (l.take (splitN len)) m mark).length < 2 ^ 40 := by
        have := consD_len (splitN len) (l.take (splitN len)) m mark (by rw [List.length_take]; omega)
        rw [List.length_append]; omega
      generalize p ++ consD (l.take (splitN len)) m mark = q at *
      have hql := dcells_len q
      have hqa : (q ++ [rootD (l.drop (splitN len))]).length = q.length + 1 := by simp
      simp -implicitDefEqProofs (disch := first | omega | (simp only [rB]; done) | (simp only [rL] <;> omega) | fail) only [↓rP, rO, Int.reduceAdd, Int.reduceSub, Int.reduceMul, Int.reduceNeg, Int.reduceToNat, Int.reduceLT, Int.reduceLE, Int.reduceEq, Nat.reduceAdd, Nat.reduceMul, Nat.reduceSub, Nat.reduceLT, Nat.reduceLeDiff, Nat.reduceEqDiff, rT, rI, hS, getBlk_pre, setBlk_pre, getTok_pre, setTok_pre, r1, q1, q2, z16, new_vd, box_vd, parts_vd, dlen, map_fit_y, setAt_dd, take_d, fold_d, outV_vd, keep_vd, dcells_take, dcells_drop, dcells_app, bsd, hqa, fit_own, grow_pre, const]
    · have r2 := fun F tag => ih (len - splitN len) (by omega) (by omega) n (by omega) tag (l.drop (splitN len)) (by rw [List.length_drop]; omega) (m - splitN len) (by omega) (by omega) false p (by omega) (F :: pre)
      have ei : ((m - splitN len : Nat) : Int) = (m : Int) - (splitN len : Int) := by omega
      simp only [List.cons_append, ei] at r2
      rw [consD_hi (by omega) (by omega) (by rw [hl]; exact hlo), hl, ← List.append_assoc]
      have hil : (p ++ consD (l.drop (splitN len)) (m - splitN len) false).length < 2 ^ 40 := by
        have := consD_len (len - splitN len) (l.drop (splitN len)) (m - splitN len) false (by rw [List.length_drop]; omega)
        rw [List.length_append]; omega
      generalize p ++ consD (l.drop (splitN len)) (m - splitN len) false = q at *
      have hql := dcells_len q
      have hqa : (q ++ [rootD (l.take (splitN len))]).length = q.length + 1 := by simp
      simp -implicitDefEqProofs (disch := first | omega | (simp only [rB]; done) | (simp only [rL] <;> omega) | fail) only [↓rP, rO, Int.reduceAdd, Int.reduceSub, Int.reduceMul, Int.reduceNeg, Int.reduceToNat, Int.reduceLT, Int.reduceLE, Int.reduceEq, Nat.reduceAdd, Nat.reduceMul, Nat.reduceSub, Nat.reduceLT, Nat.reduceLeDiff, Nat.reduceEqDiff, rT, rI, hS, getBlk_pre, setBlk_pre, getTok_pre, setTok_pre, r2, q1, q2, z16, new_vd, box_vd, parts_vd, dlen, map_fit_y, setAt_dd, take_d, fold_d, outV_vd, keep_vd, dcells_take, dcells_drop, dcells_app, bsd, hqa, fit_own, grow_pre, const]
def consE (l : List Dig) (m : Int) : List Dig × Int :=
  if m < 0 ∨ (l.length : Int) < m then ([], 1) else if m = 0 ∨ m = l.length then ([], 0) else (consD l m.toNat true, 0)
theorem F11 (s0 : St) (n : Nat) (hn : 2 ^ 55 ≤ n) (tag : Tag) (l : List Dig) (hl : l.length < 2 ^ 20) (i : Int) (hi : -9223372036854775808 ≤ i) (hi2 : i < 9223372036854775808) :
    acall (X0 zb) n 11 [.list tag l.length (dcells l), vi i] s0 = some (.tuple [.list .none (consE l i).1.length (dcells (consE l i).1), vi (consE l i).2], s0) := by
  obtain ⟨n, rfl⟩ : ∃ k, n = k + 1 := ⟨n - 1, by omega⟩
  rw [E11, D11]
  by_cases h0 : i < 0
  · have e : consE l i = ([], 1) := if_pos (.inl h0)
    rw [e]
    simp -implicitDefEqProofs (disch := first | omega | (simp only [rB]; done) | (simp only [rL] <;> omega) | fail) only [↓rP, rO, Int.reduceAdd, Int.reduceSub, Int.reduceMul, Int.reduceNeg, Int.reduceToNat, Int.reduceLT, Int.reduceLE, Int.reduceEq, Nat.reduceAdd, Nat.reduceMul, Nat.reduceSub, Nat.reduceLT, Nat.reduceLeDiff, Nat.reduceEqDiff, rT, rI, outV_own]
    rfl
  · by_cases h1 : (l.length : Int) < i
    · have e : consE l i = ([], 1) := if_pos (.inr h1)
      rw [e]
      simp -implicitDefEqProofs (disch := first | omega | (simp only [rB]; done) | (simp only [rL] <;> omega) | fail) only [↓rP, rO, Int.reduceAdd, Int.reduceSub, Int.reduceMul, Int.reduceNeg, Int.reduceToNat, Int.reduceLT, Int.reduceLE, Int.reduceEq, Nat.reduceAdd, Nat.reduceMul, Nat.reduceSub, Nat.reduceLT, Nat.reduceLeDiff, Nat.reduceEqDiff, rT, rI, outV_own]
      rfl
    · have e : consE l i = if i = 0 ∨ i = l.length then ([], 0) else (consD l i.toNat true, 0) := if_neg (by omega)
      rw [e]
      by_cases h2 : i = 0
      · rw [if_pos (.inl h2)]
        simp -implicitDefEqProofs (disch := first | omega | (simp only [rB]; done) | (simp only [rL] <;> omega) | fail) only [↓rP, rO, Int.reduceAdd, Int.reduceSub, Int.reduceMul, Int.reduceNeg, Int.reduceToNat, Int.reduceLT, Int.reduceLE, Int.reduceEq, Nat.reduceAdd, Nat.reduceMul, Nat.reduceSub, Nat.reduceLT, Nat.reduceLeDiff, Nat.reduceEqDiff, rT, rI, outV_own]
        rfl
      · by_cases h3 : i = l.length
        · rw [if_pos (.inr h3)]
          simp -implicitDefEqProofs (disch := first | omega | (simp only [rB]; done) | (simp only [rL] <;> omega) | fail) only [↓rP, rO, Int.reduceAdd, Int.reduceSub, Int.reduceMul, Int.reduceNeg, Int.reduceToNat, Int.reduceLT, Int.reduceLE, Int.reduceEq, Nat.reduceAdd, Nat.reduceMul, Nat.reduceSub, Nat.reduceLT, Nat.reduceLeDiff, Nat.reduceEqDiff, rT, rI, outV_own]
          rfl
        · rw [if_neg (by omega)]
          obtain ⟨k, rfl⟩ : ∃ k : Nat, i = k := ⟨i.toNat, by omega⟩
          have h := F34 (zb := zb) s0 l.length hl n (by omega) tag l rfl k (by omega) (by omega) true [] (by simp; omega) []
          simp only [List.nil_append, const, List.length_nil, dcells_nil] at h
          simp -implicitDefEqProofs (disch := first | omega | (simp only [rB]; done) | (simp only [rL] <;> omega) | fail) only [↓rP, rO, Int.reduceAdd, Int.reduceSub, Int.reduceMul, Int.reduceNeg, Int.reduceToNat, Int.reduceLT, Int.reduceLE, Int.reduceEq, Nat.reduceAdd, Nat.reduceMul, Nat.reduceSub, Nat.reduceLT, Nat.reduceLeDiff, Nat.reduceEqDiff, rT, rI, newBlk_def, tok_nil, tok_full, tok_v, fit_own, fit_full, fit_none, outV_own, fit_fn2, aFunc_def, h]
end Go.Proofs.YtnfdepafmmibaaaDoor

/-! Hash trees: paths, and the check of an element. Conditions: at most 2^20 digests in a path. -/
set_option linter.unusedVariables false
set_option linter.unusedSimpArgs false
set_option maxRecDepth 20000
set_option maxHeartbeats 1000000
namespace Go.Proofs.YtnfdepafmmibaaaDoor
open Go
variable {zb : Bool}
/-! ### Digests are equal if their bytes are -/
theorem vd_map (d : Dig) : vd d = .agg ((d.val.map fun b : UInt8 => (b.toNat : Int)).map fun a => .v (.int .u8 a)) := by
  rw [vd, List.map_map]; rfl
theorem vd_ints (a b : Dig) : (a.val.map fun b : UInt8 => (b.toNat : Int)) = (b.val.map fun b : UInt8 => (b.toNat : Int)) ↔ a = b := by
  constructor
  · intro h
    apply vd_inj
    rw [vd_map, vd_map, h]
  · intro h; rw [h]
theorem dig_eqn (a b : Dig) : aBin (Y0 zb).P .eql 31 (vd a) (vd b) = some (vb (decide (a = b))) ∧ aBin (Y0 zb).P .neq 31 (vd a) (vd b) = some (vb (decide (¬ a = b))) := by
  obtain ⟨i, hi, hs⟩ : ∃ i, (Y0 zb).P.info? 5 = some i ∧ i.size = 1 := by
    have := C5 (zb := zb)
    unfold Program.cellsOf at this
    cases h : (Y0 zb).P.info? 5 with
    | none => rw [h] at this; simp at this
    | some i => rw [h] at this; exact ⟨i, rfl, by simpa using this⟩
  have h := a_eql (Y0 zb).P 31 5 16 .u8 i (by kernel_rfl) (by kernel_rfl) (by kernel_rfl) hi hs (a.val.map fun b : UInt8 => (b.toNat : Int)) (b.val.map fun b : UInt8 => (b.toNat : Int)) (by rw [List.length_map, a.len]) (by rw [List.length_map, b.len])
  rw [vd_map, vd_map, h.1, h.2]
  simp only [vd_ints, and_self]
theorem dig_eql (a b : Dig) : aBin (Y0 zb).P .eql 31 (vd a) (vd b) = some (vb (decide (a = b))) := (dig_eqn a b).1
theorem dig_neq (a b : Dig) : aBin (Y0 zb).P .neq 31 (vd a) (vd b) = some (vb (decide (¬ a = b))) := (dig_eqn a b).2
/-! ### Paths -/
theorem aNil_ptr (d k o : Nat) : aNil (.ptr d k o) = some (.ptr d k o) := rfl
theorem fit_ptr (d k tk d' k' o : Nat) (h : d' < d ∨ d' = d ∧ k' ≤ k) : fit d k tk (.ptr d' k' o) = .ptr d' k' o := by
  simp [fit, refOk, h]
theorem fit_cut (d k tk : Nat) (tag : Tag) (n m a : Nat) (cs : List DV) : fit d k tk (.list (cutTag tag n m) a cs) = .list (cutTag tag n m) a cs := by
  cases tag <;> simp only [cutTag]
  · rfl
  · split <;> rfl
  · rfl
def okT (D : Nat) (tag : Tag) (n : Nat) : Prop := tag = .none ∨ (tag = .full ∧ 0 < n) ∨ ∃ d k, tag = .own d k ∧ d < D
theorem tok_list (D : Nat) (tag : Tag) (n : Nat) (cs : List DV) (h : okT D tag n) (r : List AV) (ts : List Nat) : tokCells D (.list tag n cs :: r) ts = (.list tag n cs :: (tokCells D r ts).1, (tokCells D r ts).2) := by
  rcases h with rfl | ⟨rfl, hn⟩ | ⟨d, k, rfl, hd⟩
  · rfl
  · obtain ⟨n, rfl⟩ : ∃ m, n = m + 1 := ⟨n - 1, by omega⟩
    rfl
  · rfl
theorem fit_okT (D k tk : Nat) (tag : Tag) (n : Nat) (cs : List DV) (h : okT D tag n) : fit D k tk (.list tag n cs) = .list tag n cs := by
  rcases h with rfl | ⟨rfl, hn⟩ | ⟨d, j, rfl, hd⟩
  · rfl
  · rfl
  · exact fit_own _ _ _ _ _ _ _ (.inl hd)
theorem box_path (t : TypeId) (tag : Tag) (n : Nat) (cs : List DV) (x : Value) (f : Frm) (r : St) (h : okT r.length tag n) :
    aBox t (.agg [.list tag n cs, .v x]) (f :: r) = some (.ptr r.length f.blks.length 0, { blks := f.blks ++ [{ ty := t, tk := f.toks.length, cells := [.list tag n cs, .v x] }], toks := f.toks } :: r) := by
  have : aBox t (.agg [.list tag n cs, .v x]) (f :: r) = newBlk t [.list tag n cs, .v x] (f :: r) := rfl
  rw [this, newBlk_def]
  simp only [tok_list _ _ _ _ h, tok_v, tok_nil, List.map_cons, List.map_nil, fit_okT _ _ _ _ _ _ h, fit_v]
abbrev pblk (tk : Nat) (tg : Tag) (p : Pt) : Blk := ⟨81, tk, [.list tg p.l.length (dcells p.l), vb p.sh]⟩
theorem F52 (n : Nat) (hn : 1 ≤ n) (pre s0 : St) (G : Frm) (k tk : Nat) (tg : Tag) (p : Pt) (hp : p.l.length < 2 ^ 40) (hG : G.blks[k]? = some (pblk tk tg p)) :
    ∃ tg', acall (X0 zb) n 52 [.ptr s0.length k 0] (pre ++ G :: s0) = some (vd p.last.1, pre ++ { G with blks := G.blks.set k (pblk tk tg' p.last.2) } :: s0) := by
  obtain ⟨n, rfl⟩ : ∃ m, n = m + 1 := ⟨n - 1, by omega⟩
  have bd : aBuild (Y0 zb).P 31 [] = some (vd Dig.zero) := by kernel_rfl
  have hd := dcells_len p.l
  have hk : k < G.blks.length := (List.getElem?_eq_some_iff.1 hG).1
  have hs : ∀ b, (G.blks.set k b)[k]? = some b := fun b => List.getElem?_set_self hk
  by_cases h0 : p.l.length = 0
  · refine ⟨tg, ?_⟩
    have e : p.last = (Dig.zero, ⟨p.l, true⟩) := if_pos h0
    rw [E52, D52, e]
    simp -implicitDefEqProofs (disch := first | omega | (simp only [rB]; done) | (simp only [rL] <;> omega) | fail) only [↓rP, rO, Int.reduceAdd, Int.reduceSub, Int.reduceMul, Int.reduceNeg, Int.reduceToNat, Int.reduceLT, Int.reduceLE, Int.reduceEq, Nat.reduceAdd, Nat.reduceMul, Nat.reduceSub, Nat.reduceLT, Nat.reduceLeDiff, Nat.reduceEqDiff, rT, rI, z16, new_vd, box_vd, parts_vd, dlen, map_fit_y, setAt_dd, take_d, fold_d, outV_vd, keep_vd, dcells_take, dcells_drop, dcells_app, bsd, getBlk_pre, setBlk_pre, getTok_pre, setTok_pre, getBlk_top3, setBlk_top3, List.length_append, aNil_ptr, hG, pblk, bd]
  · have e : p.last = (p.l.getD (p.l.length - 1) Dig.zero, ⟨p.l.take (p.l.length - 1), p.sh⟩) := if_neg h0
    refine ⟨.full, ?_⟩
    have t1 : ((p.l.length : Int) - 1).toNat = p.l.length - 1 := by omega
    have hL : ∀ S, aLoad (Y0 zb).P 31 (.lptr (dcells p.l) ((p.l.length - 1) * 16)) S = some (vd (p.l.getD (p.l.length - 1) Dig.zero)) := fun S => load_at (zb := zb) p.l (p.l.length - 1) S (by omega)
    have hd1 : (((dcells p.l).drop ((p.l.length - 1) * 16)).take 16).map DV.av = (p.l.getD (p.l.length - 1) Dig.zero).val.map vy := dig_at p.l _ (by omega)
    have ht : (p.l.take (p.l.length - 1)).length = p.l.length - 1 := by rw [List.length_take]; omega
    rw [E52, D52, e]
    simp -implicitDefEqProofs (disch := first | omega | (simp only [rB]; done) | (simp only [rL] <;> omega) | fail) only [↓rP, rO, Int.reduceAdd, Int.reduceSub, Int.reduceMul, Int.reduceNeg, Int.reduceToNat, Int.reduceLT, Int.reduceLE, Int.reduceEq, Nat.reduceAdd, Nat.reduceMul, Nat.reduceSub, Nat.reduceLT, Nat.reduceLeDiff, Nat.reduceEqDiff, rT, rI, z16, new_vd, box_vd, parts_vd, dlen, map_fit_y, setAt_dd, take_d, fold_d, outV_vd, dcells_take, getBlk_pre, setBlk_pre, getTok_pre, setTok_pre, getBlk_top3, setBlk_top3, List.length_append, aNil_ptr, hG, pblk, t1, hd1, fit_full, ht]
theorem F49 (n : Nat) (hn : 1 ≤ n) (pre s0 : St) (G : Frm) (k tk : Nat) (tg : Tag) (p : Pt) (hp : p.l.length < 2 ^ 40) (hG : G.blks[k]? = some (pblk tk tg p)) :
    ∃ tg', acall (X0 zb) n 49 [.ptr s0.length k 0] (pre ++ G :: s0) = some (vd p.first.1, pre ++ { G with blks := G.blks.set k (pblk tk tg' p.first.2) } :: s0) := by
  obtain ⟨n, rfl⟩ : ∃ m, n = m + 1 := ⟨n - 1, by omega⟩
  have bd : aBuild (Y0 zb).P 31 [] = some (vd Dig.zero) := by kernel_rfl
  have hd := dcells_len p.l
  have hk : k < G.blks.length := (List.getElem?_eq_some_iff.1 hG).1
  have hs : ∀ b, (G.blks.set k b)[k]? = some b := fun b => List.getElem?_set_self hk
  by_cases h0 : p.l.length = 0
  · refine ⟨tg, ?_⟩
    have e : p.first = (Dig.zero, ⟨p.l, true⟩) := if_pos h0
    rw [E49, D49, e]
    simp -implicitDefEqProofs (disch := first | omega | (simp only [rB]; done) | (simp only [rL] <;> omega) | fail) only [↓rP, rO, Int.reduceAdd, Int.reduceSub, Int.reduceMul, Int.reduceNeg, Int.reduceToNat, Int.reduceLT, Int.reduceLE, Int.reduceEq, Nat.reduceAdd, Nat.reduceMul, Nat.reduceSub, Nat.reduceLT, Nat.reduceLeDiff, Nat.reduceEqDiff, rT, rI, z16, new_vd, box_vd, parts_vd, dlen, map_fit_y, setAt_dd, take_d, fold_d, outV_vd, keep_vd, dcells_take, dcells_drop, dcells_app, bsd, getBlk_pre, setBlk_pre, getTok_pre, setTok_pre, getBlk_top3, setBlk_top3, List.length_append, aNil_ptr, hG, pblk, bd]
  · have e : p.first = (p.l.getD 0 Dig.zero, ⟨p.l.drop 1, p.sh⟩) := if_neg h0
    refine ⟨cutTag tg p.l.length p.l.length, ?_⟩
    have t1 : Int.toNat 1 = 1 := rfl
    have hd1 : ((dcells p.l).take 16).map DV.av = (p.l.getD 0 Dig.zero).val.map vy := dig_at0 p.l (by omega)
    have hdr : (dcells p.l).drop 16 = dcells (p.l.drop 1) := dcells_drop p.l 1
    have ht : (p.l.drop 1).length = p.l.length - 1 := by rw [List.length_drop]
    rw [E49, D49, e]
    simp -implicitDefEqProofs (disch := first | omega | (simp only [rB]; done) | (simp only [rL] <;> omega) | fail) only [↓rP, rO, Int.reduceAdd, Int.reduceSub, Int.reduceMul, Int.reduceNeg, Int.reduceToNat, Int.reduceLT, Int.reduceLE, Int.reduceEq, Nat.reduceAdd, Nat.reduceMul, Nat.reduceSub, Nat.reduceLT, Nat.reduceLeDiff, Nat.reduceEqDiff, rT, rI, z16, new_vd, box_vd, parts_vd, dlen, map_fit_y, setAt_dd, take_d, fold_d, outV_vd, hdr, getBlk_pre, setBlk_pre, getTok_pre, setTok_pre, getBlk_top3, setBlk_top3, List.length_append, aNil_ptr, hG, pblk, t1, Nat.zero_mul, hd1, fit_cut, ht]
end Go.Proofs.YtnfdepafmmibaaaDoor

/-! Hash trees: the check of an element. Conditions: at most 2^20 digests in a path. -/
set_option linter.unusedVariables false
set_option linter.unusedSimpArgs false
set_option maxRecDepth 20000
set_option maxHeartbeats 1000000
namespace Go.Proofs.YtnfdepafmmibaaaDoor
open Go
variable {zb : Bool}
theorem needs_top3 {α : Type} (F : Frm) (pre : St) (G G' : Frm) (s : St) (k : Nat) (r : List (Option (Nat × Nat) × St × St)) (x : Option α) :
    needs ((some (pre.length + (s.length + 1), k), F :: (pre ++ G :: s), F :: (pre ++ G' :: s)) :: r) x = needs r x :=
  needs_at2 _ _ _ _ r x (by rw [getBlk_top3, getBlk_top3])
theorem fit_fn3 (d k tk : Nat) (g : FuncId) (d1 k1 d2 k2 d3 k3 : Nat) (h1 : d1 < d ∨ d1 = d ∧ k1 ≤ k) (h2 : d2 < d ∨ d2 = d ∧ k2 ≤ k) (h3 : d3 < d ∨ d3 = d ∧ k3 ≤ k) :
    fit d k tk (.fn g [.ptr d1 k1 0, .ptr d2 k2 0, .ptr d3 k3 0]) = .fn g [.ptr d1 k1 0, .ptr d2 k2 0, .ptr d3 k3 0] := by
  simp [fit, refOk, capOk, h1, h2, h3]
theorem F47 (n : Nat) (pre s0 : St) (G : Frm) (ko kp tk tko : Nat) (tyo : TypeId) (tg : Tag) (p : Pt) (b : Bool) (hne : kp ≠ ko) (hG : G.blks[kp]? = some (pblk tk tg p)) (hO : G.blks[ko]? = some ⟨tyo, tko, [vb b]⟩) :
    adef (X0 zb) (acall (X0 zb) n) n 47 [.ptr s0.length kp 0, .ptr s0.length ko 0] (pre ++ G :: s0) = some (.tuple [], pre ++ { G with blks := G.blks.set ko ⟨tyo, tko, [vb (settled b p)]⟩ } :: s0) := by
  have e0 : ∀ x : Int, x = 0 → decide (x = 0) = true := fun x h => decide_eq_true h
  rw [EN47, DN47, settled]
  cases b with
  | false => simp -implicitDefEqProofs (disch := first | omega | (simp only [rB]; done) | (simp only [rL] <;> omega) | fail) only [↓rP, rO, Int.reduceAdd, Int.reduceSub, Int.reduceMul, Int.reduceNeg, Int.reduceToNat, Int.reduceLT, Int.reduceLE, Int.reduceEq, Nat.reduceAdd, Nat.reduceMul, Nat.reduceSub, Nat.reduceLT, Nat.reduceLeDiff, Nat.reduceEqDiff, rT, rI, getBlk_pre, setBlk_pre, getTok_pre, setTok_pre, getBlk_top3, setBlk_top3, List.length_append, needs_top3, aNil_ptr, hG, hO, pblk, Bool.false_and]
  | true =>
    cases hs : p.sh with
    | true => simp -implicitDefEqProofs (disch := first | omega | (simp only [rB]; done) | (simp only [rL] <;> omega) | fail) only [↓rP, rO, Int.reduceAdd, Int.reduceSub, Int.reduceMul, Int.reduceNeg, Int.reduceToNat, Int.reduceLT, Int.reduceLE, Int.reduceEq, Nat.reduceAdd, Nat.reduceMul, Nat.reduceSub, Nat.reduceLT, Nat.reduceLeDiff, Nat.reduceEqDiff, rT, rI, getBlk_pre, setBlk_pre, getTok_pre, setTok_pre, getBlk_top3, setBlk_top3, List.length_append, needs_top3, aNil_ptr, hG, hO, pblk, hs, Bool.and_false, Bool.false_and]
    | false =>
      have e : decide ((p.l.length : Int) = 0) = decide (p.l.length = 0) := by
        by_cases h : p.l.length = 0 <;> simp [h]
      simp -implicitDefEqProofs (disch := first | omega | (simp only [rB]; done) | (simp only [rL] <;> omega) | fail) only [↓rP, rO, Int.reduceAdd, Int.reduceSub, Int.reduceMul, Int.reduceNeg, Int.reduceToNat, Int.reduceLT, Int.reduceLE, Int.reduceEq, Nat.reduceAdd, Nat.reduceMul, Nat.reduceSub, Nat.reduceLT, Nat.reduceLeDiff, Nat.reduceEqDiff, rT, rI, getBlk_pre, setBlk_pre, getTok_pre, setTok_pre, getBlk_top3, setBlk_top3, List.length_append, needs_top3, aNil_ptr, hG, hO, pblk, hs, e]
abbrev cifr (s0 : St) (leaf root : Dig) (b : Bool) (tg : Tag) (p : Pt) : Frm :=
  { blks := [⟨31, 0, leaf.val.map vy⟩, ⟨31, 0, root.val.map vy⟩, ⟨4, 0, [vb b]⟩, pblk 0 tg p, ⟨79, 0, [.ptr s0.length 3 0]⟩,
      ⟨88, 0, [.fn 51 [.ptr s0.length 0 0, .ptr s0.length 4 0, .ptr s0.length 5 0]]⟩], toks := [] }
abbrev cist (s0 : St) (leaf root : Dig) (b : Bool) (tg : Tag) (p : Pt) : St := cifr s0 leaf root b tg p :: s0
theorem F51 (s0 : St) (leaf root : Dig) (b : Bool) (k : Nat) : 0 < k → k < 2 ^ 41 → ∀ (n : Nat) (hn : 2 ^ 54 + k ≤ n) (i : Nat) (hi : i < k) (tg : Tag) (p : Pt) (hp : p.l.length < 2 ^ 40) (pre : St),
    ∃ tg', acall (X0 zb) n 51 [vi i, vi k, .ptr s0.length 0 0, .ptr s0.length 4 0, .ptr s0.length 5 0] (pre ++ cist s0 leaf root b tg p) = some (vd (climbI leaf i k p).1, pre ++ cist s0 leaf root b tg' (climbI leaf i k p).2) := by
  induction k using Nat.strongRecOn with
  | _ k ih =>
  intro hpos hb n hn i hi tg p hp pre
  obtain ⟨n, rfl⟩ : ∃ k, n = k + 1 := ⟨n - 1, by omega⟩
  by_cases h1 : k = 1
  · refine ⟨tg, ?_⟩
    rw [E51, D51, climbI_1 (by omega)]
    simp -implicitDefEqProofs (disch := first | omega | (simp only [rB]; done) | (simp only [rL] <;> omega) | fail) only [↓rP, rO, Int.reduceAdd, Int.reduceSub, Int.reduceMul, Int.reduceNeg, Int.reduceToNat, Int.reduceLT, Int.reduceLE, Int.reduceEq, Nat.reduceAdd, Nat.reduceMul, Nat.reduceSub, Nat.reduceLT, Nat.reduceLeDiff, Nat.reduceEqDiff, rT, rI, cifr, z16, new_vd, box_vd, parts_vd, dlen, map_fit_y, setAt_dd, take_d, fold_d, outV_vd, keep_vd, dcells_take, dcells_drop, dcells_app, bsd, getBlk_pre, setBlk_pre, getTok_pre, setTok_pre, getBlk_top3, setBlk_top3, List.length_append, needs_top3]
  · have hs1 := splitN_lt (n := k) (by omega)
    have hs0 := splitN_pos k
    have hS : ∀ S, acall (X0 zb) n 33 [vi k] S = some (vi (splitN k), S) := fun S => F33 (zb := zb) (s0 := S) n (by omega) k (by omega) (by omega)
    have hll := p.last_len
    have hN : ∀ S a b, acall (X0 zb) n 19 [vd a, vd b] S = some (vd (nodeD a b), S) := fun S a b => F19 (zb := zb) (s0 := S) n (by omega) a b
    obtain ⟨t1, hl⟩ := F52 (zb := zb) n (by omega) ({ blks := [⟨31, 0, Dig.zero.val.map vy⟩, ⟨31, 0, Dig.zero.val.map vy⟩], toks := [] } :: pre) s0 (cifr s0 leaf root b tg p) 3 0 tg p hp rfl
    simp only [cifr, List.cons_append, List.set_cons_succ, List.set_cons_zero] at hl
    by_cases hlo : i < splitN k
    · obtain ⟨t2, r1⟩ := ih (splitN k) hs1 hs0 (by omega) n (by omega) i hlo t1 p.last.2 (by omega) ({ blks := [⟨31, 0, Dig.zero.val.map vy⟩, ⟨31, 0, p.last.1.val.map vy⟩], toks := [] } :: pre)
      simp only [cist, cifr, List.cons_append] at r1
      refine ⟨t2, ?_⟩
      rw [E51, D51, climbI_lo (by omega) hlo]
      simp -implicitDefEqProofs (disch := first | omega | (simp only [rB]; done) | (simp only [rL] <;> omega) | fail) only [↓rP, rO, Int.reduceAdd, Int.reduceSub, Int.reduceMul, Int.reduceNeg, Int.reduceToNat, Int.reduceLT, Int.reduceLE, Int.reduceEq, Nat.reduceAdd, Nat.reduceMul, Nat.reduceSub, Nat.reduceLT, Nat.reduceLeDiff, Nat.reduceEqDiff, rT, rI, cifr, z16, new_vd, box_vd, parts_vd, dlen, map_fit_y, setAt_dd, take_d, fold_d, outV_vd, keep_vd, dcells_take, dcells_drop, dcells_app, bsd, getBlk_pre, setBlk_pre, getTok_pre, setTok_pre, getBlk_top3, setBlk_top3, List.length_append, needs_top3, hS, hl, r1, hN]
    · obtain ⟨t2, r1⟩ := ih (k - splitN k) (by omega) (by omega) (by omega) n (by omega) (i - splitN k) (by omega) t1 p.last.2 (by omega) ({ blks := [⟨31, 0, Dig.zero.val.map vy⟩, ⟨31, 0, p.last.1.val.map vy⟩], toks := [] } :: pre)
      have ei : ((i - splitN k : Nat) : Int) = (i : Int) - (splitN k : Int) := by omega
      have ek : ((k - splitN k : Nat) : Int) = (k : Int) - (splitN k : Int) := by omega
      simp only [cist, cifr, List.cons_append, ei, ek] at r1
      refine ⟨t2, ?_⟩
      rw [E51, D51, climbI_hi (by omega) hlo]
      simp -implicitDefEqProofs (disch := first | omega | (simp only [rB]; done) | (simp only [rL] <;> omega) | fail) only [↓rP, rO, Int.reduceAdd, Int.reduceSub, Int.reduceMul, Int.reduceNeg, Int.reduceToNat, Int.reduceLT, Int.reduceLE, Int.reduceEq, Nat.reduceAdd, Nat.reduceMul, Nat.reduceSub, Nat.reduceLT, Nat.reduceLeDiff, Nat.reduceEqDiff, rT, rI, cifr, z16, new_vd, box_vd, parts_vd, dlen, map_fit_y, setAt_dd, take_d, fold_d, outV_vd, keep_vd, dcells_take, dcells_drop, dcells_app, bsd, getBlk_pre, setBlk_pre, getTok_pre, setTok_pre, getBlk_top3, setBlk_top3, List.length_append, needs_top3, hS, hl, r1, hN]
theorem F25 (s0 : St) (n : Nat) (hn : 2 ^ 56 ≤ n) (leaf root : Dig) (i k : Int) (tag : Tag) (l : List Dig) (hl : l.length < 2 ^ 20) (ht : okT s0.length tag l.length) :
    acall (X0 zb) n 25 [vd leaf, vi i, vi k, .list tag l.length (dcells l), vd root] s0 = some (vb (checkI leaf i k l root), s0) := by
  obtain ⟨n, rfl⟩ : ∃ k, n = k + 1 := ⟨n - 1, by omega⟩
  have hb : ∀ f, aBox 81 (.agg [.list tag l.length (dcells l), .v (.bool false)]) (f :: s0) = some (.ptr s0.length f.blks.length 0, { blks := f.blks ++ [{ ty := 81, tk := f.toks.length, cells := [.list tag l.length (dcells l), .v (.bool false)] }], toks := f.toks } :: s0) :=
    fun f => box_path _ tag _ _ _ f s0 ht
  rw [E25, D25, checkI]
  by_cases h1 : k < 1
  · rw [if_pos (.inl h1)]
    simp -implicitDefEqProofs (disch := first | omega | (simp only [rB]; done) | exact plain_rep _ _ | exact map_plain_w _ | exact map_plain_y _ | (apply plain_cons; repeat (first | exact plain_nil | apply plain_cons)) | (simp only [rL] <;> omega) | fail) only [↓rP, rO, Int.reduceAdd, Int.reduceSub, Int.reduceMul, Int.reduceNeg, Int.reduceToNat, Int.reduceLT, Int.reduceLE, Int.reduceEq, Nat.reduceAdd, Nat.reduceMul, Nat.reduceSub, Nat.reduceLT, Nat.reduceLeDiff, Nat.reduceEqDiff, rT, rI, cifr, z16, new_vd, box_vd, parts_vd, dlen, map_fit_y, setAt_dd, take_d, fold_d, outV_vd, keep_vd, dcells_take, dcells_drop, dcells_app, bsd]
  · by_cases h2 : 1099511627776 < k
    · rw [if_pos (.inr (.inl h2))]
      simp -implicitDefEqProofs (disch := first | omega | (simp only [rB]; done) | exact plain_rep _ _ | exact map_plain_w _ | exact map_plain_y _ | (apply plain_cons; repeat (first | exact plain_nil | apply plain_cons)) | (simp only [rL] <;> omega) | fail) only [↓rP, rO, Int.reduceAdd, Int.reduceSub, Int.reduceMul, Int.reduceNeg, Int.reduceToNat, Int.reduceLT, Int.reduceLE, Int.reduceEq, Nat.reduceAdd, Nat.reduceMul, Nat.reduceSub, Nat.reduceLT, Nat.reduceLeDiff, Nat.reduceEqDiff, rT, rI, cifr, z16, new_vd, box_vd, parts_vd, dlen, map_fit_y, setAt_dd, take_d, fold_d, outV_vd, keep_vd, dcells_take, dcells_drop, dcells_app, bsd]
    · by_cases h3 : i < 0
      · rw [if_pos (.inr (.inr (.inl h3)))]
        simp -implicitDefEqProofs (disch := first | omega | (simp only [rB]; done) | exact plain_rep _ _ | exact map_plain_w _ | exact map_plain_y _ | (apply plain_cons; repeat (first | exact plain_nil | apply plain_cons)) | (simp only [rL] <;> omega) | fail) only [↓rP, rO, Int.reduceAdd, Int.reduceSub, Int.reduceMul, Int.reduceNeg, Int.reduceToNat, Int.reduceLT, Int.reduceLE, Int.reduceEq, Nat.reduceAdd, Nat.reduceMul, Nat.reduceSub, Nat.reduceLT, Nat.reduceLeDiff, Nat.reduceEqDiff, rT, rI, cifr, z16, new_vd, box_vd, parts_vd, dlen, map_fit_y, setAt_dd, take_d, fold_d, outV_vd, keep_vd, dcells_take, dcells_drop, dcells_app, bsd]
      · by_cases h4 : k ≤ i
        · rw [if_pos (.inr (.inr (.inr h4)))]
          simp -implicitDefEqProofs (disch := first | omega | (simp only [rB]; done) | exact plain_rep _ _ | exact map_plain_w _ | exact map_plain_y _ | (apply plain_cons; repeat (first | exact plain_nil | apply plain_cons)) | (simp only [rL] <;> omega) | fail) only [↓rP, rO, Int.reduceAdd, Int.reduceSub, Int.reduceMul, Int.reduceNeg, Int.reduceToNat, Int.reduceLT, Int.reduceLE, Int.reduceEq, Nat.reduceAdd, Nat.reduceMul, Nat.reduceSub, Nat.reduceLT, Nat.reduceLeDiff, Nat.reduceEqDiff, rT, rI, cifr, z16, new_vd, box_vd, parts_vd, dlen, map_fit_y, setAt_dd, take_d, fold_d, outV_vd, keep_vd, dcells_take, dcells_drop, dcells_app, bsd]
        · rw [if_neg (by omega)]
          obtain ⟨i, rfl⟩ : ∃ j : Nat, i = j := ⟨i.toNat, by omega⟩
          obtain ⟨k, rfl⟩ : ∃ j : Nat, k = j := ⟨k.toNat, by omega⟩
          obtain ⟨t2, r⟩ := F51 (zb := zb) s0 leaf root false k (by omega) (by omega) n (by omega) i (by omega) tag ⟨l, false⟩ (by simp only; omega) []
          simp only [cist, cifr, List.nil_append] at r
          have hdf := fun b => F47 (zb := zb) n [] s0 (cifr s0 leaf root b t2 (climbI leaf i k ⟨l, false⟩).2) 2 3 0 0 4 t2 (climbI leaf i k ⟨l, false⟩).2 b (by decide) rfl rfl
          simp only [cifr, List.nil_append, List.set_cons_succ, List.set_cons_zero] at hdf
          simp -implicitDefEqProofs (disch := first | omega | (simp only [rB]; done) | exact plain_rep _ _ | exact map_plain_w _ | exact map_plain_y _ | (apply plain_cons; repeat (first | exact plain_nil | apply plain_cons)) | (simp only [rL] <;> omega) | fail) only [↓rP, rO, Int.reduceAdd, Int.reduceSub, Int.reduceMul, Int.reduceNeg, Int.reduceToNat, Int.reduceLT, Int.reduceLE, Int.reduceEq, Nat.reduceAdd, Nat.reduceMul, Nat.reduceSub, Nat.reduceLT, Nat.reduceLeDiff, Nat.reduceEqDiff, rT, rI, cifr, z16, new_vd, box_vd, parts_vd, dlen, map_fit_y, setAt_dd, take_d, fold_d, outV_vd, keep_vd, dcells_take, dcells_drop, dcells_app, bsd, hb, fit_ptr, fit_fn3, aFunc_def, r, dig_eql, hdf]
end Go.Proofs.YtnfdepafmmibaaaDoor

/-! Hash trees: the check of a beginning. Conditions: at most 2^20 digests in a path. -/
set_option linter.unusedVariables false
set_option linter.unusedSimpArgs false
set_option maxRecDepth 20000
set_option maxHeartbeats 1000000
namespace Go.Proofs.YtnfdepafmmibaaaDoor
open Go
variable {zb : Bool}
theorem ext0 (a : AV) (r : List AV) : aExtract (.tuple (a :: r)) 0 = some a := rfl
theorem ext1 (a b : AV) (r : List AV) : aExtract (.tuple (a :: b :: r)) 1 = some b := rfl
theorem needs_top4 {α : Type} (F F' : Frm) (pre : St) (G G' : Frm) (s : St) (k : Nat) (r : List (Option (Nat × Nat) × St × St)) (x : Option α) (h : F.blks[k]? = F'.blks[k]?) :
    needs ((some (pre.length + (s.length + 1), k), F :: (pre ++ G :: s), F' :: (pre ++ G' :: s)) :: r) x = needs r x :=
  needs_at2 _ _ _ _ r x (by rw [getBlk_top3, getBlk_top3, h])
abbrev ccfr (s0 : St) (old root : Dig) (b : Bool) (tg : Tag) (p : Pt) : Frm :=
  { blks := [⟨31, 0, old.val.map vy⟩, ⟨31, 0, root.val.map vy⟩, ⟨4, 0, [vb b]⟩, pblk 0 tg p, ⟨79, 0, [.ptr s0.length 3 0]⟩,
      ⟨89, 0, [.fn 53 [.ptr s0.length 0 0, .ptr s0.length 4 0, .ptr s0.length 5 0]]⟩], toks := [] }
abbrev ccst (s0 : St) (old root : Dig) (b : Bool) (tg : Tag) (p : Pt) : St := ccfr s0 old root b tg p :: s0
theorem F53 (s0 : St) (old root : Dig) (b : Bool) (k : Nat) : 0 < k → k < 2 ^ 41 → ∀ (n : Nat) (hn : 2 ^ 54 + k ≤ n) (m : Nat) (hm0 : 0 < m) (hi : m ≤ k) (mark : Bool) (tg : Tag) (p : Pt) (hp : p.l.length < 2 ^ 40) (pre : St),
    ∃ tg', acall (X0 zb) n 53 [vi m, vi k, vb mark, .ptr s0.length 0 0, .ptr s0.length 4 0, .ptr s0.length 5 0] (pre ++ ccst s0 old root b tg p) =
      some (.tuple [vd (climbC old m k mark p).1.1, vd (climbC old m k mark p).1.2], pre ++ ccst s0 old root b tg' (climbC old m k mark p).2) := by
  induction k using Nat.strongRecOn with
  | _ k ih =>
  intro hpos hb n hn m hm0 hi mark tg p hp pre
  obtain ⟨n, rfl⟩ : ∃ k, n = k + 1 := ⟨n - 1, by omega⟩
  by_cases h1 : m = k
  · subst h1
    cases mark with
    | true =>
      refine ⟨tg, ?_⟩
      rw [E53, D53, climbC_all, if_pos rfl]
      simp -implicitDefEqProofs (disch := first | omega | (simp only [rB]; done) | (simp only [rL] <;> omega) | fail) only [↓rP, rO, Int.reduceAdd, Int.reduceSub, Int.reduceMul, Int.reduceNeg, Int.reduceToNat, Int.reduceLT, Int.reduceLE, Int.reduceEq, Nat.reduceAdd, Nat.reduceMul, Nat.reduceSub, Nat.reduceLT, Nat.reduceLeDiff, Nat.reduceEqDiff, rT, rI, ccfr, z16, new_vd, box_vd, parts_vd, dlen, map_fit_y, setAt_dd, take_d, fold_d, outV_vd, keep_vd, dcells_take, dcells_drop, dcells_app, bsd, getBlk_pre, setBlk_pre, getTok_pre, setTok_pre, getBlk_top3, setBlk_top3, List.length_append, needs_top3, needs_top4, ext0, ext1]
    | false =>
      obtain ⟨t1, hl⟩ := F52 (zb := zb) n (by omega) ({ blks := [⟨31, 0, Dig.zero.val.map vy⟩, ⟨31, 0, Dig.zero.val.map vy⟩, ⟨31, 0, old.val.map vy⟩], toks := [] } :: pre) s0 (ccfr s0 old root b tg p) 3 0 tg p hp rfl
      simp only [ccfr, List.cons_append, List.set_cons_succ, List.set_cons_zero] at hl
      refine ⟨t1, ?_⟩
      rw [E53, D53, climbC_all, if_neg (by decide)]
      simp -implicitDefEqProofs (disch := first | omega | (simp only [rB]; done) | (simp only [rL] <;> omega) | fail) only [↓rP, rO, Int.reduceAdd, Int.reduceSub, Int.reduceMul, Int.reduceNeg, Int.reduceToNat, Int.reduceLT, Int.reduceLE, Int.reduceEq, Nat.reduceAdd, Nat.reduceMul, Nat.reduceSub, Nat.reduceLT, Nat.reduceLeDiff, Nat.reduceEqDiff, rT, rI, ccfr, z16, new_vd, box_vd, parts_vd, dlen, map_fit_y, setAt_dd, take_d, fold_d, outV_vd, keep_vd, dcells_take, dcells_drop, dcells_app, bsd, getBlk_pre, setBlk_pre, getTok_pre, setTok_pre, getBlk_top3, setBlk_top3, List.length_append, needs_top3, needs_top4, ext0, ext1, hl]
  · have hs1 := splitN_lt (n := k) (by omega)
    have hs0 := splitN_pos k
    have hS : ∀ S, acall (X0 zb) n 33 [vi k] S = some (vi (splitN k), S) := fun S => F33 (zb := zb) (s0 := S) n (by omega) k (by omega) (by omega)
    have hll := p.last_len
    have hN : ∀ S a b, acall (X0 zb) n 19 [vd a, vd b] S = some (vd (nodeD a b), S) := fun S a b => F19 (zb := zb) (s0 := S) n (by omega) a b
    obtain ⟨t1, hl⟩ := F52 (zb := zb) n (by omega) ({ blks := [⟨31, 0, Dig.zero.val.map vy⟩, ⟨31, 0, Dig.zero.val.map vy⟩, ⟨31, 0, Dig.zero.val.map vy⟩], toks := [] } :: pre) s0 (ccfr s0 old root b tg p) 3 0 tg p hp rfl
    simp only [ccfr, List.cons_append, List.set_cons_succ, List.set_cons_zero] at hl
    by_cases hlo : m ≤ splitN k
    · obtain ⟨t2, r1⟩ := ih (splitN k) hs1 hs0 (by omega) n (by omega) m hm0 hlo mark t1 p.last.2 (by omega) ({ blks := [⟨31, 0, Dig.zero.val.map vy⟩, ⟨31, 0, Dig.zero.val.map vy⟩, ⟨31, 0, p.last.1.val.map vy⟩], toks := [] } :: pre)
      simp only [ccst, ccfr, List.cons_append] at r1
      refine ⟨t2, ?_⟩
      rw [E53, D53, climbC_lo h1 (by omega) hlo]
      simp -implicitDefEqProofs (disch := first | omega | (simp only [rB]; done) | (simp only [rL] <;> omega) | fail) only [↓rP, rO, Int.reduceAdd, Int.reduceSub, Int.reduceMul, Int.reduceNeg, Int.reduceToNat, Int.reduceLT, Int.reduceLE, Int.reduceEq, Nat.reduceAdd, Nat.reduceMul, Nat.reduceSub, Nat.reduceLT, Nat.reduceLeDiff, Nat.reduceEqDiff, rT, rI, ccfr, z16, new_vd, box_vd, parts_vd, dlen, map_fit_y, setAt_dd, take_d, fold_d, outV_vd, keep_vd, dcells_take, dcells_drop, dcells_app, bsd, getBlk_pre, setBlk_pre, getTok_pre, setTok_pre, getBlk_top3, setBlk_top3, List.length_append, needs_top3, needs_top4, ext0, ext1, hS, hl, r1, hN]
    · obtain ⟨t2, r1⟩ := ih (k - splitN k) (by omega) (by omega) (by omega) n (by omega) (m - splitN k) (by omega) (by omega) false t1 p.last.2 (by omega) ({ blks := [⟨31, 0, Dig.zero.val.map vy⟩, ⟨31, 0, Dig.zero.val.map vy⟩, ⟨31, 0, p.last.1.val.map vy⟩], toks := [] } :: pre)
      have ei : ((m - splitN k : Nat) : Int) = (m : Int) - (splitN k : Int) := by omega
      have ek : ((k - splitN k : Nat) : Int) = (k : Int) - (splitN k : Int) := by omega
      simp only [ccst, ccfr, List.cons_append, ei, ek] at r1
      refine ⟨t2, ?_⟩
      rw [E53, D53, climbC_hi h1 (by omega) hlo]
      simp -implicitDefEqProofs (disch := first | omega | (simp only [rB]; done) | (simp only [rL] <;> omega) | fail) only [↓rP, rO, Int.reduceAdd, Int.reduceSub, Int.reduceMul, Int.reduceNeg, Int.reduceToNat, Int.reduceLT, Int.reduceLE, Int.reduceEq, Nat.reduceAdd, Nat.reduceMul, Nat.reduceSub, Nat.reduceLT, Nat.reduceLeDiff, Nat.reduceEqDiff, rT, rI, ccfr, z16, new_vd, box_vd, parts_vd, dlen, map_fit_y, setAt_dd, take_d, fold_d, outV_vd, keep_vd, dcells_take, dcells_drop, dcells_app, bsd, getBlk_pre, setBlk_pre, getTok_pre, setTok_pre, getBlk_top3, setBlk_top3, List.length_append, needs_top3, needs_top4, ext0, ext1, hS, hl, r1, hN]
theorem F26 (s0 : St) (n : Nat) (hn : 2 ^ 56 ≤ n) (old root : Dig) (m k : Int) (tag : Tag) (l : List Dig) (hl : l.length < 2 ^ 20) (ht : okT s0.length tag l.length) :
    acall (X0 zb) n 26 [vi m, vi k, vd old, vd root, .list tag l.length (dcells l)] s0 = some (vb (checkC m k old root l), s0) := by
  obtain ⟨n, rfl⟩ : ∃ k, n = k + 1 := ⟨n - 1, by omega⟩
  have hb : ∀ f, aBox 81 (.agg [.list tag l.length (dcells l), .v (.bool false)]) (f :: s0) = some (.ptr s0.length f.blks.length 0, { blks := f.blks ++ [{ ty := 81, tk := f.toks.length, cells := [.list tag l.length (dcells l), .v (.bool false)] }], toks := f.toks } :: s0) :=
    fun f => box_path _ tag _ _ _ f s0 ht
  rw [E26, D26, checkC]
  by_cases h1 : m < 0
  · rw [if_pos (.inl h1)]
    simp -implicitDefEqProofs (disch := first | omega | (simp only [rB]; done) | exact plain_rep _ _ | exact map_plain_w _ | exact map_plain_y _ | (apply plain_cons; repeat (first | exact plain_nil | apply plain_cons)) | (simp only [rL] <;> omega) | fail) only [↓rP, rO, Int.reduceAdd, Int.reduceSub, Int.reduceMul, Int.reduceNeg, Int.reduceToNat, Int.reduceLT, Int.reduceLE, Int.reduceEq, Nat.reduceAdd, Nat.reduceMul, Nat.reduceSub, Nat.reduceLT, Nat.reduceLeDiff, Nat.reduceEqDiff, rT, rI, ccfr, z16, new_vd, box_vd, parts_vd, dlen, map_fit_y, setAt_dd, take_d, fold_d, outV_vd, keep_vd, dcells_take, dcells_drop, dcells_app, bsd]
  · by_cases h2 : k < m
    · rw [if_pos (.inr (.inl h2))]
      simp -implicitDefEqProofs (disch := first | omega | (simp only [rB]; done) | exact plain_rep _ _ | exact map_plain_w _ | exact map_plain_y _ | (apply plain_cons; repeat (first | exact plain_nil | apply plain_cons)) | (simp only [rL] <;> omega) | fail) only [↓rP, rO, Int.reduceAdd, Int.reduceSub, Int.reduceMul, Int.reduceNeg, Int.reduceToNat, Int.reduceLT, Int.reduceLE, Int.reduceEq, Nat.reduceAdd, Nat.reduceMul, Nat.reduceSub, Nat.reduceLT, Nat.reduceLeDiff, Nat.reduceEqDiff, rT, rI, ccfr, z16, new_vd, box_vd, parts_vd, dlen, map_fit_y, setAt_dd, take_d, fold_d, outV_vd, keep_vd, dcells_take, dcells_drop, dcells_app, bsd]
    · by_cases h3 : 1099511627776 < k
      · rw [if_pos (.inr (.inr h3))]
        simp -implicitDefEqProofs (disch := first | omega | (simp only [rB]; done) | exact plain_rep _ _ | exact map_plain_w _ | exact map_plain_y _ | (apply plain_cons; repeat (first | exact plain_nil | apply plain_cons)) | (simp only [rL] <;> omega) | fail) only [↓rP, rO, Int.reduceAdd, Int.reduceSub, Int.reduceMul, Int.reduceNeg, Int.reduceToNat, Int.reduceLT, Int.reduceLE, Int.reduceEq, Nat.reduceAdd, Nat.reduceMul, Nat.reduceSub, Nat.reduceLT, Nat.reduceLeDiff, Nat.reduceEqDiff, rT, rI, ccfr, z16, new_vd, box_vd, parts_vd, dlen, map_fit_y, setAt_dd, take_d, fold_d, outV_vd, keep_vd, dcells_take, dcells_drop, dcells_app, bsd]
      · rw [if_neg (by omega)]
        by_cases h4 : m = 0
        · rw [if_pos h4]
          have hE : ∀ S, acall (X0 zb) n 38 [] S = some (vd emptyD, S) := fun S => F38 (zb := zb) (s0 := S) n (by omega)
          have hdf := fun b => F47 (zb := zb) n [] s0 { blks := [⟨31, 0, old.val.map vy⟩, ⟨31, 0, root.val.map vy⟩, ⟨4, 0, [vb b]⟩, pblk 0 tag ⟨l, false⟩, ⟨79, 0, [.ptr s0.length 3 0]⟩], toks := [] } 2 3 0 0 4 tag ⟨l, false⟩ b (by decide) rfl rfl
          simp only [pblk, List.nil_append, List.set_cons_succ, List.set_cons_zero] at hdf
          simp -implicitDefEqProofs (disch := first | omega | (simp only [rB]; done) | exact plain_rep _ _ | exact map_plain_w _ | exact map_plain_y _ | (apply plain_cons; repeat (first | exact plain_nil | apply plain_cons)) | (simp only [rL] <;> omega) | fail) only [↓rP, rO, Int.reduceAdd, Int.reduceSub, Int.reduceMul, Int.reduceNeg, Int.reduceToNat, Int.reduceLT, Int.reduceLE, Int.reduceEq, Nat.reduceAdd, Nat.reduceMul, Nat.reduceSub, Nat.reduceLT, Nat.reduceLeDiff, Nat.reduceEqDiff, rT, rI, ccfr, z16, new_vd, box_vd, parts_vd, dlen, map_fit_y, setAt_dd, take_d, fold_d, outV_vd, keep_vd, dcells_take, dcells_drop, dcells_app, bsd, hb, hE, fit_ptr, dig_eql, hdf, pblk]
        · rw [if_neg h4]
          obtain ⟨m, rfl⟩ : ∃ j : Nat, m = j := ⟨m.toNat, by omega⟩
          obtain ⟨k, rfl⟩ : ∃ j : Nat, k = j := ⟨k.toNat, by omega⟩
          obtain ⟨t2, r⟩ := F53 (zb := zb) s0 old root false k (by omega) (by omega) n (by omega) m (by omega) (by omega) true tag ⟨l, false⟩ (by simp only; omega) []
          simp only [ccst, ccfr, List.nil_append] at r
          have hdf := fun b a1 a2 => F47 (zb := zb) n [] s0 { blks := (ccfr s0 old root b t2 (climbC old m k true ⟨l, false⟩).2).blks ++ [⟨31, 0, a1⟩, ⟨31, 0, a2⟩], toks := [] } 2 3 0 0 4 t2 (climbC old m k true ⟨l, false⟩).2 b (by decide) rfl rfl
          simp only [ccfr, List.nil_append, List.set_cons_succ, List.set_cons_zero, List.cons_append] at hdf
          rw [Int.toNat_natCast, Int.toNat_natCast]
          by_cases h5 : (climbC old m k true ⟨l, false⟩).1.1 = old
          · rw [decide_eq_true h5, Bool.true_and]
            simp -implicitDefEqProofs (disch := first | omega | (simp only [rB]; done) | exact plain_rep _ _ | exact map_plain_w _ | exact map_plain_y _ | (apply plain_cons; repeat (first | exact plain_nil | apply plain_cons)) | (simp only [rL] <;> omega) | fail) only [↓rP, rO, Int.reduceAdd, Int.reduceSub, Int.reduceMul, Int.reduceNeg, Int.reduceToNat, Int.reduceLT, Int.reduceLE, Int.reduceEq, Nat.reduceAdd, Nat.reduceMul, Nat.reduceSub, Nat.reduceLT, Nat.reduceLeDiff, Nat.reduceEqDiff, rT, rI, ccfr, z16, new_vd, box_vd, parts_vd, dlen, map_fit_y, setAt_dd, take_d, fold_d, outV_vd, keep_vd, dcells_take, dcells_drop, dcells_app, bsd, hb, fit_ptr, fit_fn3, aFunc_def, r, dig_eql, hdf, h5, ext0, ext1]
          · rw [decide_eq_false h5, Bool.false_and]
            simp -implicitDefEqProofs (disch := first | omega | (simp only [rB]; done) | exact plain_rep _ _ | exact map_plain_w _ | exact map_plain_y _ | (apply plain_cons; repeat (first | exact plain_nil | apply plain_cons)) | (simp only [rL] <;> omega) | fail) only [↓rP, rO, Int.reduceAdd, Int.reduceSub, Int.reduceMul, Int.reduceNeg, Int.reduceToNat, Int.reduceLT, Int.reduceLE, Int.reduceEq, Nat.reduceAdd, Nat.reduceMul, Nat.reduceSub, Nat.reduceLT, Nat.reduceLeDiff, Nat.reduceEqDiff, rT, rI, ccfr, z16, new_vd, box_vd, parts_vd, dlen, map_fit_y, setAt_dd, take_d, fold_d, outV_vd, keep_vd, dcells_take, dcells_drop, dcells_app, bsd, hb, fit_ptr, fit_fn3, aFunc_def, r, dig_eql, hdf, h5, ext0, ext1]
end Go.Proofs.YtnfdepafmmibaaaDoor

/-! Places: ascending places, the place of a number in a list, and cutting a list there. Conditions: at most 2^20 places. -/
set_option linter.unusedVariables false
set_option linter.unusedSimpArgs false
set_option maxRecDepth 20000
set_option maxHeartbeats 1000000
namespace Go.Proofs.YtnfdepafmmibaaaDoor
open Go
variable {zb : Bool}
def icells (l : List Int) : List DV := l.map fun i => .v (.int .i64 i)
theorem icells_len (l : List Int) : (icells l).length = l.length := by simp [icells]
theorem icells_take (l : List Int) (k : Nat) : (icells l).take k = icells (l.take k) := by simp [icells]
theorem icells_drop (l : List Int) (k : Nat) : (icells l).drop k = icells (l.drop k) := by simp [icells]
theorem icells_load (l : List Int) (i : Nat) (s : St) (h : i < l.length) : aLoad (Y0 zb).P 3 (.lptr (icells l) i) s = some (vi (l.getD i 0)) := by
  rw [ldl3, icells, List.getElem?_map, List.getElem?_eq_getElem h, List.getD_eq_getElem?_getD, List.getElem?_eq_getElem h]; rfl
/-- The right to grow of a list is not of this depth or deeper. -/
def okK (D : Nat) : Tag → Prop
  | .own d _ => d < D
  | _ => True
theorem okK_up {D : Nat} {tag : Tag} (h : okK D tag) (k : Nat) : okK (D + k) tag := by
  cases tag with
  | own d k' => exact Nat.lt_of_lt_of_le h (Nat.le_add_right _ _)
  | none => trivial
  | full => trivial
theorem okK_cut {D : Nat} {tag : Tag} (h : okK D tag) (a b : Nat) : okK D (cutTag tag a b) := by
  cases tag with
  | own d k' => trivial
  | none => trivial
  | full => simp only [cutTag]; split <;> trivial
theorem outV_cut (D : Nat) (f : Frm) (P : Program) (tag : Tag) (a b n : Nat) (cs : List DV) : outV D f P (.list (cutTag tag a b) n cs) = .list (cutTag tag a b) n cs := by
  cases tag with
  | own d k => rfl
  | none => rfl
  | full => simp only [cutTag]; split <;> rfl
theorem keep_list (D nb nt n : Nat) (tag : Tag) (cs : List DV) (h : okK D tag) : keep D nb nt (.list tag n cs) = .list tag n cs := by
  cases tag with
  | own d k' => exact keep_own _ _ _ _ _ _ _ (.inl h)
  | none => rfl
  | full => rfl
section
variable {s0 : St}
theorem R42 (n : Nat) (kk : AX → Env → St → Res)
    (hE : ∀ v0 v1 v2 v3 v4 v5 v6 v7 v8 v9 v10 v11 v12 v13 v14 v15 v16 v17 v18 v19 v20 v21 v22 v23, kk (.exit 0) ⟨[v0, v1, v2, v3, v4, v5, v6, v7, v8, v9, v10, v11, v12, v13, v14, v15, v16, v17, v18, v19, v20, v21, v22, v23], []⟩ ({ blks := [], toks := [] } :: s0) = some (vb true, s0))
    (hR : ∀ v0 v1 v2 v3 v5 v6 v7 v8 v9 v10 v11 v12 v13 v14 v15 v16 v17 v18 v19 v20 v21 v22 v23, kk .ret ⟨[v0, v1, v2, v3, vb false, v5, v6, v7, v8, v9, v10, v11, v12, v13, v14, v15, v16, v17, v18, v19, v20, v21, v22, v23], []⟩ ({ blks := [], toks := [] } :: s0) = some (vb false, s0))
    (k : Int) (l : List Int) (hl : l.length < 2 ^ 20) (tag : Tag) (ht : okK s0.length tag) : ∀ (rest : List Int) (i : Nat) (hi : l.drop i = rest) (last : Int) (r : Nat),
    lp42_3 (Y0 zb) (acall (X0 zb) n) n 0 0 kk (r + 1 + rest.length) (vi k) (vi last) (.list tag l.length (icells l)) (vi l.length) (vi i) ({ blks := [], toks := [] } :: s0) = some (vb (ascFrom k last rest), s0)
  | [], i, hi, last, r => by
    have h1 : l.length ≤ i := List.drop_eq_nil_iff.1 hi
    rw [List.length_nil, Nat.add_zero, D42L3, ascFrom]
    simp -implicitDefEqProofs (disch := first | omega | (simp only [rB]; done) | (simp only [rL] <;> omega) | fail) only [↓rP, rO, Int.reduceAdd, Int.reduceSub, Int.reduceMul, Int.reduceNeg, Int.reduceToNat, Int.reduceLT, Int.reduceLE, Int.reduceEq, Nat.reduceAdd, Nat.reduceMul, Nat.reduceSub, Nat.reduceLT, Nat.reduceLeDiff, Nat.reduceEqDiff, rT, rI, hE]
  | x :: rest, i, hi, last, r => by
    have h1 : i < l.length := by
      rcases Nat.lt_or_ge i l.length with h | h
      · exact h
      · rw [List.drop_of_length_le h] at hi; cases hi
    have hx : l.getD i 0 = x := by
      rw [List.getD_eq_getElem?_getD, ← Nat.add_zero i, ← List.getElem?_drop, hi]; rfl
    have hd : l.drop (i + 1) = rest := by rw [← List.drop_drop, hi]; rfl
    have hc := icells_len l
    have e1 : (i : Int) + 1 = ((i + 1 : Nat) : Int) := by omega
    have hld := icells_load (zb := zb) l i
    rw [hx] at hld
    rw [List.length_cons, show r + 1 + (rest.length + 1) = (r + 1 + rest.length) + 1 by omega, D42L3, ascFrom]
    have ih := R42 n kk hE hR k l hl tag ht rest (i + 1) hd x r
    by_cases h2 : x ≤ last
    · rw [if_pos (.inl h2)]
      simp -implicitDefEqProofs (disch := first | omega | (simp only [rB]; done) | (simp only [rL] <;> omega) | fail) only [↓rP, rO, Int.reduceAdd, Int.reduceSub, Int.reduceMul, Int.reduceNeg, Int.reduceToNat, Int.reduceLT, Int.reduceLE, Int.reduceEq, Nat.reduceAdd, Nat.reduceMul, Nat.reduceSub, Nat.reduceLT, Nat.reduceLeDiff, Nat.reduceEqDiff, rT, rI, hld, hR]
    · by_cases h3 : k ≤ x
      · rw [if_pos (.inr h3)]
        simp -implicitDefEqProofs (disch := first | omega | (simp only [rB]; done) | (simp only [rL] <;> omega) | fail) only [↓rP, rO, Int.reduceAdd, Int.reduceSub, Int.reduceMul, Int.reduceNeg, Int.reduceToNat, Int.reduceLT, Int.reduceLE, Int.reduceEq, Nat.reduceAdd, Nat.reduceMul, Nat.reduceSub, Nat.reduceLT, Nat.reduceLeDiff, Nat.reduceEqDiff, rT, rI, hld, hR]
      · rw [if_neg (by omega)]
        simp -implicitDefEqProofs (disch := first | omega | (simp only [rB]; done) | (simp only [rL] <;> omega) | fail) only [↓rP, rO, Int.reduceAdd, Int.reduceSub, Int.reduceMul, Int.reduceNeg, Int.reduceToNat, Int.reduceLT, Int.reduceLE, Int.reduceEq, Nat.reduceAdd, Nat.reduceMul, Nat.reduceSub, Nat.reduceLT, Nat.reduceLeDiff, Nat.reduceEqDiff, rT, rI, hld, e1, ih, keep_list _ _ _ _ _ _ ht]
theorem F42 (n : Nat) (hn : 2 ^ 30 ≤ n) (l : List Int) (hl : l.length < 2 ^ 20) (tag : Tag) (ht : okK s0.length tag) (k : Int) : acall (X0 zb) n 42 [.list tag l.length (icells l), vi k] s0 = some (vb (ascFrom k (-1) l), s0) := by
  obtain ⟨n, rfl⟩ : ∃ k, n = k + 1 := ⟨n - 1, by omega⟩
  rw [E42, D42]
  simp -implicitDefEqProofs (disch := first | omega | (simp only [rB]; done) | (simp only [rL] <;> omega) | fail) only [↓rP, rO, Int.reduceAdd, Int.reduceSub, Int.reduceMul, Int.reduceNeg, Int.reduceToNat, Int.reduceLT, Int.reduceLE, Int.reduceEq, Nat.reduceAdd, Nat.reduceMul, Nat.reduceSub, Nat.reduceLT, Nat.reduceLeDiff, Nat.reduceEqDiff, rT, rI]
  generalize hkk : kont _ _ _ _ _ _ _ = kk
  have e := R42 (zb := zb) (s0 := s0) n kk (by subst hkk; intros; rw [D42K3exit0]; simp -implicitDefEqProofs (disch := first | omega | (simp only [rB]; done) | (simp only [rL] <;> omega) | fail) only [↓rP, rO, Int.reduceAdd, Int.reduceSub, Int.reduceMul, Int.reduceNeg, Int.reduceToNat, Int.reduceLT, Int.reduceLE, Int.reduceEq, Nat.reduceAdd, Nat.reduceMul, Nat.reduceSub, Nat.reduceLT, Nat.reduceLeDiff, Nat.reduceEqDiff, rT, rI]) (by subst hkk; intros; rw [D42K3ret]; simp -implicitDefEqProofs (disch := first | omega | (simp only [rB]; done) | (simp only [rL] <;> omega) | fail) only [↓rP, rO, Int.reduceAdd, Int.reduceSub, Int.reduceMul, Int.reduceNeg, Int.reduceToNat, Int.reduceLT, Int.reduceLE, Int.reduceEq, Nat.reduceAdd, Nat.reduceMul, Nat.reduceSub, Nat.reduceLT, Nat.reduceLeDiff, Nat.reduceEqDiff, rT, rI]) k l hl tag ht l 0 rfl (-1) (n - 1 - l.length)
  rw [show n - 1 - l.length + 1 + l.length = n by omega] at e
  exact e
theorem F81 (n : Nat) (hn : 1 ≤ n) (x : Int) : acall (X0 zb) n 81 [vi x] s0 = some (vb false, s0) := by
  obtain ⟨n, rfl⟩ : ∃ k, n = k + 1 := ⟨n - 1, by omega⟩
  rw [E81, D81]
  simp -implicitDefEqProofs (disch := first | omega | (simp only [rB]; done) | (simp only [rL] <;> omega) | fail) only [↓rP, rO, Int.reduceAdd, Int.reduceSub, Int.reduceMul, Int.reduceNeg, Int.reduceToNat, Int.reduceLT, Int.reduceLE, Int.reduceEq, Nat.reduceAdd, Nat.reduceMul, Nat.reduceSub, Nat.reduceLT, Nat.reduceLeDiff, Nat.reduceEqDiff, rT, rI]
theorem F90 (n : Nat) (hn : 1 ≤ n) (x : Int) : acall (X0 zb) n 90 [vi x] s0 = some (vb false, s0) := by
  obtain ⟨n, rfl⟩ : ∃ k, n = k + 1 := ⟨n - 1, by omega⟩
  rw [E90, D90]
  simp -implicitDefEqProofs (disch := first | omega | (simp only [rB]; done) | (simp only [rL] <;> omega) | fail) only [↓rP, rO, Int.reduceAdd, Int.reduceSub, Int.reduceMul, Int.reduceNeg, Int.reduceToNat, Int.reduceLT, Int.reduceLE, Int.reduceEq, Nat.reduceAdd, Nat.reduceMul, Nat.reduceSub, Nat.reduceLT, Nat.reduceLeDiff, Nat.reduceEqDiff, rT, rI]
theorem F80 (n : Nat) (hn : 2 ≤ n) (x y : Int) : acall (X0 zb) n 80 [vi x, vi y] s0 = some (vb (decide (x < y)), s0) := by
  obtain ⟨n, rfl⟩ : ∃ k, n = k + 1 := ⟨n - 1, by omega⟩
  rw [E80, D80]
  simp -implicitDefEqProofs (disch := first | omega | (simp only [rB]; done) | (simp only [rL] <;> omega) | fail) only [↓rP, rO, Int.reduceAdd, Int.reduceSub, Int.reduceMul, Int.reduceNeg, Int.reduceToNat, Int.reduceLT, Int.reduceLE, Int.reduceEq, Nat.reduceAdd, Nat.reduceMul, Nat.reduceSub, Nat.reduceLT, Nat.reduceLeDiff, Nat.reduceEqDiff, rT, rI, F90]
theorem R67 (n : Nat) (hn : 2 ^ 30 ≤ n) (l : List Int) (hl : l.length < 2 ^ 20) (hs : Asc l) (tag : Tag) (ht : okK s0.length tag) (t : Int) (kk : AX → Env → St → Res) (res : Res)
    (hE : ∀ v2 v3 v4 v5 v9 v10 v11 v12 v13 v14 v15 v16 v17 v18 v19 v20 v21 v22 v23 v24 v25 v26 v27 v28 v29 v30 v31 v32 v33 v34 v35 v36 v37 v38 v39 v40 v41 v42 v43 v44 v45 v46 v47 v48 v49 v50 v51 v52 v53, kk (.exit 0) ⟨.list tag l.length (icells l) :: vi t :: v2 :: v3 :: v4 :: v5 :: vi l.length :: vi (cutN t l) :: vi (cutN t l) :: v9 :: v10 :: v11 :: v12 :: v13 :: v14 :: v15 :: v16 :: v17 :: v18 :: v19 :: v20 :: v21 :: v22 :: v23 :: v24 :: v25 :: v26 :: v27 :: v28 :: v29 :: v30 :: v31 :: v32 :: v33 :: v34 :: v35 :: v36 :: v37 :: v38 :: v39 :: v40 :: v41 :: v42 :: v43 :: v44 :: v45 :: v46 :: v47 :: v48 :: v49 :: v50 :: v51 :: v52 :: v53 :: [], []⟩ ({ blks := [], toks := [] } :: s0) = res) :
    ∀ (d i j : Nat), j - i = d → i ≤ cutN t l → cutN t l ≤ j → j ≤ l.length → ∀ (f : Nat), d + 1 ≤ f →
    lp67_3 (Y0 zb) (acall (X0 zb) n) n 0 0 kk f (.list tag l.length (icells l)) (vi t) (vi l.length) (vi i) (vi j) ({ blks := [], toks := [] } :: s0) = res := by
  intro d
  induction d using Nat.strongRecOn with
  | _ d ih =>
  intro i j hd hi hj hjl f hf
  obtain ⟨f, rfl⟩ : ∃ k, f = k + 1 := ⟨f - 1, by omega⟩
  rw [D67L3]
  have hc := icells_len l
  by_cases h : i < j
  · have e0 : ((i : Int) + (j : Int)) = ((i + j : Nat) : Int) := by omega
    have hh : aBin (Y0 zb).P .shr 94 (vq (i + j)) (vq 1) = some (vq ((i + j) / 2)) := q_shr _ _ _ _ 1 (by decide)
    have h1 : i ≤ (i + j) / 2 := by omega
    have h2 : (i + j) / 2 < j := by omega
    generalize (i + j) / 2 = m at *
    have hld := fun s => icells_load (zb := zb) l m s (by omega)
    have hci := cutN_iff t l hs m (by omega)
    have e1 : (m : Int) + 1 = ((m + 1 : Nat) : Int) := by omega
    have hw : IntKind.wrap .i64 (m : Int) = (m : Int) := wi_id (by omega) (by omega)
    have hL := fun S => F80 (zb := zb) (s0 := S) n (by omega) (l.getD m 0) t
    by_cases h3 : l.getD m 0 < t
    · have r := ih (j - (m + 1)) (by omega) (m + 1) j rfl (by have := hci.1 h3; omega) hj hjl f (by omega)
      simp -implicitDefEqProofs (disch := first | omega | (simp only [rB]; done) | (simp only [rL] <;> omega) | fail) only [↓rP, rO, Int.reduceAdd, Int.reduceSub, Int.reduceMul, Int.reduceNeg, Int.reduceToNat, Int.reduceLT, Int.reduceLE, Int.reduceEq, Nat.reduceAdd, Nat.reduceMul, Nat.reduceSub, Nat.reduceLT, Nat.reduceLeDiff, Nat.reduceEqDiff, rT, rI, e0, wq_id, hh, hw, hld, hL, e1, r, keep_list _ _ _ _ _ _ ht]
    · have r := ih (m - i) (by omega) i m rfl hi (by have := mt hci.2 h3; omega) (by omega) f (by omega)
      simp -implicitDefEqProofs (disch := first | omega | (simp only [rB]; done) | (simp only [rL] <;> omega) | fail) only [↓rP, rO, Int.reduceAdd, Int.reduceSub, Int.reduceMul, Int.reduceNeg, Int.reduceToNat, Int.reduceLT, Int.reduceLE, Int.reduceEq, Nat.reduceAdd, Nat.reduceMul, Nat.reduceSub, Nat.reduceLT, Nat.reduceLeDiff, Nat.reduceEqDiff, rT, rI, e0, wq_id, hh, hw, hld, hL, r, keep_list _ _ _ _ _ _ ht]
  · obtain rfl : i = cutN t l := by omega
    obtain rfl : j = cutN t l := by omega
    simp -implicitDefEqProofs (disch := first | omega | (simp only [rB]; done) | (simp only [rL] <;> omega) | fail) only [↓rP, rO, Int.reduceAdd, Int.reduceSub, Int.reduceMul, Int.reduceNeg, Int.reduceToNat, Int.reduceLT, Int.reduceLE, Int.reduceEq, Nat.reduceAdd, Nat.reduceMul, Nat.reduceSub, Nat.reduceLT, Nat.reduceLeDiff, Nat.reduceEqDiff, rT, rI, hE]
theorem F67 (n : Nat) (hn : 2 ^ 31 ≤ n) (l : List Int) (hl : l.length < 2 ^ 20) (hs : Asc l) (tag : Tag) (ht : okK s0.length tag) (t : Int) : ∃ b, acall (X0 zb) n 67 [.list tag l.length (icells l), vi t] s0 = some (.tuple [vi (cutN t l), vb b], s0) := by
  obtain ⟨n, rfl⟩ : ∃ k, n = k + 1 := ⟨n - 1, by omega⟩
  rw [E67, D67]
  simp -implicitDefEqProofs (disch := first | omega | (simp only [rB]; done) | (simp only [rL] <;> omega) | fail) only [↓rP, rO, Int.reduceAdd, Int.reduceSub, Int.reduceMul, Int.reduceNeg, Int.reduceToNat, Int.reduceLT, Int.reduceLE, Int.reduceEq, Nat.reduceAdd, Nat.reduceMul, Nat.reduceSub, Nat.reduceLT, Nat.reduceLeDiff, Nat.reduceEqDiff, rT, rI]
  generalize hkk : kont _ _ _ _ _ _ _ = kk
  have hc := icells_len l
  have hk := cutN_le t l
  have hld := fun s => icells_load (zb := zb) l (cutN t l) s
  have hN := fun S x => F81 (zb := zb) (s0 := S) n (by omega) x
  have e := fun b hE => R67 (zb := zb) (s0 := s0) n (by omega) l hl hs tag ht t kk (some (.tuple [vi (cutN t l), vb b], s0)) hE l.length 0 l.length (by omega) (by omega) hk (by omega) n (by omega)
  generalize hg : cutN t l = K at *
  by_cases h1 : K < l.length
  · refine ⟨decide (l.getD K 0 = t), ?_⟩
    refine e _ ?_
    subst hkk; intros; rw [D67K3exit0]
    by_cases h2 : l.getD K 0 = t
    · simp -implicitDefEqProofs (disch := first | omega | (simp only [rB]; done) | (simp only [rL] <;> omega) | fail) only [↓rP, rO, Int.reduceAdd, Int.reduceSub, Int.reduceMul, Int.reduceNeg, Int.reduceToNat, Int.reduceLT, Int.reduceLE, Int.reduceEq, Nat.reduceAdd, Nat.reduceMul, Nat.reduceSub, Nat.reduceLT, Nat.reduceLeDiff, Nat.reduceEqDiff, rT, rI, hld, hN, h2]
    · simp -implicitDefEqProofs (disch := first | omega | (simp only [rB]; done) | (simp only [rL] <;> omega) | fail) only [↓rP, rO, Int.reduceAdd, Int.reduceSub, Int.reduceMul, Int.reduceNeg, Int.reduceToNat, Int.reduceLT, Int.reduceLE, Int.reduceEq, Nat.reduceAdd, Nat.reduceMul, Nat.reduceSub, Nat.reduceLT, Nat.reduceLeDiff, Nat.reduceEqDiff, rT, rI, hld, hN, h2]
  · refine ⟨false, ?_⟩
    refine e _ ?_
    subst hkk; intros; rw [D67K3exit0]
    simp -implicitDefEqProofs (disch := first | omega | (simp only [rB]; done) | (simp only [rL] <;> omega) | fail) only [↓rP, rO, Int.reduceAdd, Int.reduceSub, Int.reduceMul, Int.reduceNeg, Int.reduceToNat, Int.reduceLT, Int.reduceLE, Int.reduceEq, Nat.reduceAdd, Nat.reduceMul, Nat.reduceSub, Nat.reduceLT, Nat.reduceLeDiff, Nat.reduceEqDiff, rT, rI]
theorem F44 (n : Nat) (hn : 2 ^ 32 ≤ n) (l : List Int) (hl : l.length < 2 ^ 20) (hs : Asc l) (tag : Tag) (ht : okK s0.length tag) (t : Int) : acall (X0 zb) n 44 [.list tag l.length (icells l), vi t] s0 =
    some (.tuple [.list .full (cutN t l) (icells (l.take (cutN t l))), .list (cutTag tag l.length l.length) (l.length - cutN t l) (icells (l.drop (cutN t l)))], s0) := by
  obtain ⟨n, rfl⟩ : ∃ k, n = k + 1 := ⟨n - 1, by omega⟩
  obtain ⟨b, hb⟩ := F67 (zb := zb) (s0 := { blks := [], toks := [0, 0] } :: s0) n (by omega) l hl hs tag (okK_up ht 1) t
  have hc := icells_len l
  have hk := cutN_le t l
  rw [E44, D44]
  simp -implicitDefEqProofs (disch := first | omega | (simp only [rB]; done) | (simp only [rL] <;> omega) | fail) only [↓rP, rO, Int.reduceAdd, Int.reduceSub, Int.reduceMul, Int.reduceNeg, Int.reduceToNat, Int.reduceLT, Int.reduceLE, Int.reduceEq, Nat.reduceAdd, Nat.reduceMul, Nat.reduceSub, Nat.reduceLT, Nat.reduceLeDiff, Nat.reduceEqDiff, rT, rI, hb, ext0, ext1, icells_take, icells_drop, outV_cut]
end
end Go.Proofs.YtnfdepafmmibaaaDoor

/-! Hash trees: the proof for several elements. Conditions: at most 2^20 digests and places. -/
set_option linter.unusedVariables false
set_option linter.unusedSimpArgs false
set_option maxRecDepth 20000
set_option maxHeartbeats 1000000
namespace Go.Proofs.YtnfdepafmmibaaaDoor
open Go
variable {zb : Bool}
theorem okK_ge {D D' : Nat} {tag : Tag} (h : okK D tag) (hd : D ≤ D') : okK D' tag := by
  have := okK_up h (D' - D)
  rwa [show D + (D' - D) = D' by omega] at this
abbrev mast (s0 : St) (p : List Dig) : St :=
  { blks := [⟨22, 2, [.list (.own s0.length 1) p.length (dcells p)]⟩, ⟨75, 2, [.fn 43 [.ptr s0.length 0 0, .ptr s0.length 1 0]]⟩], toks := [0, p.length] } :: s0
theorem F43 (s0 : St) (len : Nat) : 0 < len → len < 2 ^ 20 → ∀ (n : Nat) (hn : 2 ^ 54 + len ≤ n) (tag : Tag) (l : List Dig) (hl : l.length = len) (a : Int) (ha : 0 ≤ a) (ha2 : a + len < 2 ^ 41)
    (tp : Tag) (ps : List Int) (hps : Asc ps) (hpl : ps.length < 2 ^ 20) (htp : okK s0.length tp) (p : List Dig) (hp : p.length + len < 2 ^ 22) (pre : St),
    acall (X0 zb) n 43 [.list tag len (dcells l), vi a, .list tp ps.length (icells ps), .ptr s0.length 0 0, .ptr s0.length 1 0] (pre ++ mast s0 p) = some (.tuple [], pre ++ mast s0 (p ++ manyD l a ps)) := by
  induction len using Nat.strongRecOn with
  | _ len ih =>
  intro hpos hb n hn tag l hl a ha ha2 tp ps hps hpl htp p hp pre
  obtain ⟨n, rfl⟩ : ∃ k, n = k + 1 := ⟨n - 1, by omega⟩
  have hd := dcells_len l
  rw [E43, D43]
  by_cases h0 : ps.length = 0
  · have q1 := fun S tag => F15 (zb := zb) len (by omega) n (by omega) tag l hl S
    rw [manyD_0 h0]
    have hql := dcells_len p
    have hqa : (p ++ [rootD l]).length = p.length + 1 := by simp
    simp -implicitDefEqProofs (disch := first | omega | (simp only [rB]; done) | (simp only [rL] <;> omega) | fail) only [↓rP, rO, Int.reduceAdd, Int.reduceSub, Int.reduceMul, Int.reduceNeg, Int.reduceToNat, Int.reduceLT, Int.reduceLE, Int.reduceEq, Nat.reduceAdd, Nat.reduceMul, Nat.reduceSub, Nat.reduceLT, Nat.reduceLeDiff, Nat.reduceEqDiff, rT, rI, h0, getBlk_pre, setBlk_pre, getTok_pre, setTok_pre, q1, z16, new_vd, box_vd, parts_vd, dlen, map_fit_y, setAt_dd, take_d, fold_d, outV_vd, keep_vd, dcells_take, dcells_drop, dcells_app, bsd, hqa, fit_own, grow_pre, mast]
  · by_cases h1 : len = 1
    · rw [manyD_1 h0 (by omega)]
      simp -implicitDefEqProofs (disch := first | omega | (simp only [rB]; done) | (simp only [rL] <;> omega) | fail) only [↓rP, rO, Int.reduceAdd, Int.reduceSub, Int.reduceMul, Int.reduceNeg, Int.reduceToNat, Int.reduceLT, Int.reduceLE, Int.reduceEq, Nat.reduceAdd, Nat.reduceMul, Nat.reduceSub, Nat.reduceLT, Nat.reduceLeDiff, Nat.reduceEqDiff, rT, rI, h0, h1]
    · have hs1 := splitN_lt (n := len) (by omega)
      have hs0 := splitN_pos len
      have hS : ∀ S, acall (X0 zb) n 33 [vi len] S = some (vi (splitN len), S) := fun S => F33 (zb := zb) (s0 := S) n (by omega) len (by omega) (by omega)
      have hC := fun F => F44 (zb := zb) (s0 := F :: (pre ++ mast s0 p)) n (by omega) ps hpl hps tp (okK_ge htp (by simp only [List.length_cons, List.length_append]; omega)) (a + splitN len)
      rw [manyD_2 h0 (by omega), hl, ← List.append_assoc]
      have hK := cutN_le (a + splitN len) ps
      generalize hg : cutN (a + splitN len) ps = K at *
      have e1 : (ps.take K).length = K := by rw [List.length_take]; omega
      have e2 : (ps.drop K).length = ps.length - K := by rw [List.length_drop]
      have r1 := fun F tag => ih (splitN len) hs1 hs0 (by omega) n (by omega) tag (l.take (splitN len)) (by rw [List.length_take]; omega) a ha (by omega) .full (ps.take K) (hps.take K) (by omega) trivial p (by omega) (F :: pre)
      have hil : (p ++ manyD (l.take (splitN len)) a (ps.take K)).length + (len - splitN len) < 2 ^ 22 := by
        have := manyD_len (splitN len) (l.take (splitN len)) (by rw [List.length_take]; omega) hs0 a (ps.take K)
        rw [List.length_append]; omega
      generalize p ++ manyD (l.take (splitN len)) a (ps.take K) = q at *
      have r2 := fun F tag => ih (len - splitN len) (by omega) (by omega) (by omega) n (by omega) tag (l.drop (splitN len)) (by rw [List.length_drop]; omega) (a + splitN len) (by omega) (by omega)
        (cutTag tp ps.length ps.length) (ps.drop K) (hps.drop K) (by omega) (okK_cut htp _ _) q (by omega) (F :: pre)
      simp only [List.cons_append, e1, e2] at r1 r2
      simp -implicitDefEqProofs (disch := first | omega | (simp only [rB]; done) | (simp only [rL] <;> omega) | fail) only [↓rP, rO, Int.reduceAdd, Int.reduceSub, Int.reduceMul, Int.reduceNeg, Int.reduceToNat, Int.reduceLT, Int.reduceLE, Int.reduceEq, Nat.reduceAdd, Nat.reduceMul, Nat.reduceSub, Nat.reduceLT, Nat.reduceLeDiff, Nat.reduceEqDiff, rT, rI, hS, h0, getBlk_pre, setBlk_pre, getTok_pre, setTok_pre, hC, ext0, ext1, r1, r2, z16, new_vd, box_vd, parts_vd, dlen, map_fit_y, setAt_dd, take_d, fold_d, outV_vd, keep_vd, dcells_take, dcells_drop, dcells_app, bsd, fit_own, grow_pre, mast]
theorem F21 (s0 : St) (n : Nat) (hn : 2 ^ 55 ≤ n) (tag : Tag) (l : List Dig) (hl : l.length < 2 ^ 20) (tp : Tag) (ps : List Int) (hpl : ps.length < 2 ^ 20) (htp : okK s0.length tp) :
    acall (X0 zb) n 21 [.list tag l.length (dcells l), .list tp ps.length (icells ps)] s0 = some (.tuple [.list .none (manyE l ps).1.length (dcells (manyE l ps).1), vi (manyE l ps).2], s0) := by
  obtain ⟨n, rfl⟩ : ∃ k, n = k + 1 := ⟨n - 1, by omega⟩
  have hA := fun F => F42 (zb := zb) (s0 := F :: s0) n (by omega) ps hpl tp (okK_up htp 1) l.length
  rw [E21, D21]
  by_cases h0 : ascFrom l.length (-1) ps = true
  · have h1 := ascFrom_asc l.length ps (-1) h0
    by_cases h2 : 0 < l.length
    · have e : manyE l ps = (manyD l 0 ps, 0) := by rw [manyE, if_pos h0, if_pos h2]
      rw [e]
      have h := F43 (zb := zb) s0 l.length (by omega) hl n (by omega) tag l rfl 0 (by omega) (by omega) tp ps h1.2 hpl htp [] (by simp; omega) []
      simp only [List.nil_append, mast, List.length_nil, dcells_nil] at h
      simp -implicitDefEqProofs (disch := first | omega | (simp only [rB]; done) | (simp only [rL] <;> omega) | fail) only [↓rP, rO, Int.reduceAdd, Int.reduceSub, Int.reduceMul, Int.reduceNeg, Int.reduceToNat, Int.reduceLT, Int.reduceLE, Int.reduceEq, Nat.reduceAdd, Nat.reduceMul, Nat.reduceSub, Nat.reduceLT, Nat.reduceLeDiff, Nat.reduceEqDiff, rT, rI, newBlk_def, tok_nil, tok_full, tok_v, fit_own, fit_full, fit_none, outV_own, fit_fn2, aFunc_def, hA, h0, h]
    · have e : manyE l ps = ([], 0) := by rw [manyE, if_pos h0, if_neg h2]
      rw [e]
      simp -implicitDefEqProofs (disch := first | omega | (simp only [rB]; done) | (simp only [rL] <;> omega) | fail) only [↓rP, rO, Int.reduceAdd, Int.reduceSub, Int.reduceMul, Int.reduceNeg, Int.reduceToNat, Int.reduceLT, Int.reduceLE, Int.reduceEq, Nat.reduceAdd, Nat.reduceMul, Nat.reduceSub, Nat.reduceLT, Nat.reduceLeDiff, Nat.reduceEqDiff, rT, rI, newBlk_def, tok_nil, tok_full, tok_v, fit_own, fit_full, fit_none, outV_own, fit_fn2, aFunc_def, hA, h0]
      rfl
  · have e : manyE l ps = ([], 1) := by rw [manyE, if_neg h0]
    rw [e]
    simp -implicitDefEqProofs (disch := first | omega | (simp only [rB]; done) | (simp only [rL] <;> omega) | fail) only [↓rP, rO, Int.reduceAdd, Int.reduceSub, Int.reduceMul, Int.reduceNeg, Int.reduceToNat, Int.reduceLT, Int.reduceLE, Int.reduceEq, Nat.reduceAdd, Nat.reduceMul, Nat.reduceSub, Nat.reduceLT, Nat.reduceLeDiff, Nat.reduceEqDiff, rT, rI, newBlk_def, tok_nil, tok_full, tok_v, fit_own, fit_full, fit_none, outV_own, hA, h0, Bool.not_eq_true]
    rfl
end Go.Proofs.YtnfdepafmmibaaaDoor

/-! Hash trees: the check of several elements. Conditions: at most 2^20 digests and places. -/
set_option linter.unusedVariables false
set_option linter.unusedSimpArgs false
set_option maxRecDepth 20000
set_option maxHeartbeats 1000000
namespace Go.Proofs.YtnfdepafmmibaaaDoor
open Go
variable {zb : Bool}
abbrev cmfr (s0 : St) (root : Dig) (b : Bool) (tg : Tag) (p : Pt) (tq : Tag) (q : Pt) : Frm :=
  { blks := [⟨31, 0, root.val.map vy⟩, ⟨4, 0, [vb b]⟩, pblk 0 tg p, pblk 0 tq q, ⟨79, 0, [.ptr s0.length 2 0]⟩, ⟨79, 0, [.ptr s0.length 3 0]⟩,
      ⟨84, 0, [.fn 48 [.ptr s0.length 4 0, .ptr s0.length 5 0, .ptr s0.length 6 0]]⟩], toks := [] }
abbrev cmst (s0 : St) (root : Dig) (b : Bool) (tg : Tag) (p : Pt) (tq : Tag) (q : Pt) : St := cmfr s0 root b tg p tq q :: s0
theorem F48 (s0 : St) (root : Dig) (b : Bool) (k : Nat) : 0 < k → k < 2 ^ 41 → ∀ (n : Nat) (hn : 2 ^ 54 + k ≤ n) (a : Int) (ha : 0 ≤ a) (ha2 : a + k < 2 ^ 42)
    (tp : Tag) (ps : List Int) (hps : Asc ps) (hpl : ps.length < 2 ^ 20) (htp : okK s0.length tp) (tg : Tag) (p : Pt) (hp : p.l.length < 2 ^ 40) (tq : Tag) (q : Pt) (hq : q.l.length < 2 ^ 40) (pre : St),
    ∃ tg' tq', acall (X0 zb) n 48 [vi a, vi k, .list tp ps.length (icells ps), .ptr s0.length 4 0, .ptr s0.length 5 0, .ptr s0.length 6 0] (pre ++ cmst s0 root b tg p tq q) =
      some (vd (climbM a k ps p q).1, pre ++ cmst s0 root b tg' (climbM a k ps p q).2.1 tq' (climbM a k ps p q).2.2) := by
  induction k using Nat.strongRecOn with
  | _ k ih =>
  intro hpos hb n hn a ha ha2 tp ps hps hpl htp tg p hp tq q hq pre
  obtain ⟨n, rfl⟩ : ∃ k, n = k + 1 := ⟨n - 1, by omega⟩
  by_cases h0 : ps.length = 0
  · obtain ⟨t1, hl⟩ := F49 (zb := zb) n (by omega) ({ blks := [⟨31, 0, Dig.zero.val.map vy⟩], toks := [] } :: pre) s0 (cmfr s0 root b tg p tq q) 2 0 tg p hp rfl
    simp only [cmfr, List.cons_append, List.set_cons_succ, List.set_cons_zero] at hl
    refine ⟨t1, tq, ?_⟩
    rw [E48, D48, climbM_0 h0]
    simp -implicitDefEqProofs (disch := first | omega | (simp only [rB]; done) | (simp only [rL] <;> omega) | fail) only [↓rP, rO, Int.reduceAdd, Int.reduceSub, Int.reduceMul, Int.reduceNeg, Int.reduceToNat, Int.reduceLT, Int.reduceLE, Int.reduceEq, Nat.reduceAdd, Nat.reduceMul, Nat.reduceSub, Nat.reduceLT, Nat.reduceLeDiff, Nat.reduceEqDiff, rT, rI, h0, cmfr, z16, new_vd, box_vd, parts_vd, dlen, map_fit_y, setAt_dd, take_d, fold_d, outV_vd, keep_vd, dcells_take, dcells_drop, dcells_app, bsd, getBlk_pre, setBlk_pre, getTok_pre, setTok_pre, getBlk_top3, setBlk_top3, List.length_append, needs_top3, needs_top4, ext0, ext1, hl]
  · by_cases h1 : k = 1
    · subst h1
      obtain ⟨t1, hl⟩ := F49 (zb := zb) n (by omega) ({ blks := [⟨31, 0, Dig.zero.val.map vy⟩], toks := [] } :: pre) s0 (cmfr s0 root b tg p tq q) 3 0 tq q hq rfl
      simp only [cmfr, List.cons_append, List.set_cons_succ, List.set_cons_zero] at hl
      refine ⟨tg, t1, ?_⟩
      rw [E48, D48, climbM_1 h0 (by omega)]
      simp -implicitDefEqProofs (disch := first | omega | (simp only [rB]; done) | (simp only [rL] <;> omega) | fail) only [↓rP, rO, Int.reduceAdd, Int.reduceSub, Int.reduceMul, Int.reduceNeg, Int.reduceToNat, Int.reduceLT, Int.reduceLE, Int.reduceEq, Nat.reduceAdd, Nat.reduceMul, Nat.reduceSub, Nat.reduceLT, Nat.reduceLeDiff, Nat.reduceEqDiff, rT, rI, h0, cmfr, z16, new_vd, box_vd, parts_vd, dlen, map_fit_y, setAt_dd, take_d, fold_d, outV_vd, keep_vd, dcells_take, dcells_drop, dcells_app, bsd, getBlk_pre, setBlk_pre, getTok_pre, setTok_pre, getBlk_top3, setBlk_top3, List.length_append, needs_top3, needs_top4, ext0, ext1, hl]
    · have hs1 := splitN_lt (n := k) (by omega)
      have hs0 := splitN_pos k
      have hS : ∀ S, acall (X0 zb) n 33 [vi k] S = some (vi (splitN k), S) := fun S => F33 (zb := zb) (s0 := S) n (by omega) k (by omega) (by omega)
      have hN : ∀ S a b, acall (X0 zb) n 19 [vd a, vd b] S = some (vd (nodeD a b), S) := fun S a b => F19 (zb := zb) (s0 := S) n (by omega) a b
      have hC := fun F => F44 (zb := zb) (s0 := F :: (pre ++ cmst s0 root b tg p tq q)) n (by omega) ps hpl hps tp (okK_ge htp (by simp only [List.length_cons, List.length_append]; omega)) (a + splitN k)
      rw [climbM_2 h0 (by omega)]
      have hK := cutN_le (a + splitN k) ps
      generalize hg : cutN (a + splitN k) ps = K at *
      have e1 : (ps.take K).length = K := by rw [List.length_take]; omega
      have e2 : (ps.drop K).length = ps.length - K := by rw [List.length_drop]
      obtain ⟨t1, u1, r1⟩ := ih (splitN k) hs1 hs0 (by omega) n (by omega) a ha (by omega) .full (ps.take K) (hps.take K) (by omega) trivial tg p hp tq q hq ({ blks := [⟨31, 0, Dig.zero.val.map vy⟩], toks := [] } :: pre)
      have hll := climbM_len (splitN k) a (ps.take K) p q
      generalize climbM a (splitN k) (ps.take K) p q = R at *
      obtain ⟨D1, p1, q1⟩ := R
      simp only at r1 hll
      obtain ⟨t2, u2, r2⟩ := ih (k - splitN k) (by omega) (by omega) (by omega) n (by omega) (a + splitN k) (by omega) (by omega) (cutTag tp ps.length ps.length) (ps.drop K) (hps.drop K) (by omega) (okK_cut htp _ _) t1 p1 (by omega) u1 q1 (by omega)
        ({ blks := [⟨31, 0, Dig.zero.val.map vy⟩, ⟨31, 0, D1.val.map vy⟩], toks := [] } :: pre)
      have ek : ((k - splitN k : Nat) : Int) = (k : Int) - (splitN k : Int) := by omega
      simp only [cmst, cmfr, List.cons_append, e1, e2, ek] at r1 r2
      simp only [cmst, cmfr] at hC
      refine ⟨t2, u2, ?_⟩
      rw [E48, D48]
      simp -implicitDefEqProofs (disch := first | omega | (simp only [rB]; done) | (simp only [rL] <;> omega) | fail) only [↓rP, rO, Int.reduceAdd, Int.reduceSub, Int.reduceMul, Int.reduceNeg, Int.reduceToNat, Int.reduceLT, Int.reduceLE, Int.reduceEq, Nat.reduceAdd, Nat.reduceMul, Nat.reduceSub, Nat.reduceLT, Nat.reduceLeDiff, Nat.reduceEqDiff, rT, rI, h0, hS, hC, cmfr, z16, new_vd, box_vd, parts_vd, dlen, map_fit_y, setAt_dd, take_d, fold_d, outV_vd, keep_vd, dcells_take, dcells_drop, dcells_app, bsd, getBlk_pre, setBlk_pre, getTok_pre, setTok_pre, getBlk_top3, setBlk_top3, List.length_append, needs_top3, needs_top4, ext0, ext1, r1, r2, hN]
theorem F23 (s0 : St) (n : Nat) (hn : 2 ^ 56 ≤ n) (k : Int) (tp : Tag) (ps : List Int) (hpl : ps.length < 2 ^ 20) (htp : okK s0.length tp) (tf : Tag) (found : List Dig) (hf : found.length < 2 ^ 20) (htf : okT s0.length tf found.length)
    (tag : Tag) (l : List Dig) (hl : l.length < 2 ^ 20) (ht : okT s0.length tag l.length) (root : Dig) :
    acall (X0 zb) n 23 [vi k, .list tp ps.length (icells ps), .list tf found.length (dcells found), .list tag l.length (dcells l), vd root] s0 = some (vb (checkM k ps found l root), s0) := by
  obtain ⟨n, rfl⟩ : ∃ k, n = k + 1 := ⟨n - 1, by omega⟩
  have hb : ∀ f, aBox 81 (.agg [.list tag l.length (dcells l), .v (.bool false)]) (f :: s0) = some (.ptr s0.length f.blks.length 0, { blks := f.blks ++ [{ ty := 81, tk := f.toks.length, cells := [.list tag l.length (dcells l), .v (.bool false)] }], toks := f.toks } :: s0) :=
    fun f => box_path _ tag _ _ _ f s0 ht
  have hb2 : ∀ f, aBox 81 (.agg [.list tf found.length (dcells found), .v (.bool false)]) (f :: s0) = some (.ptr s0.length f.blks.length 0, { blks := f.blks ++ [{ ty := 81, tk := f.toks.length, cells := [.list tf found.length (dcells found), .v (.bool false)] }], toks := f.toks } :: s0) :=
    fun f => box_path _ tf _ _ _ f s0 htf
  have hA := fun F => F42 (zb := zb) (s0 := F :: s0) n (by omega) ps hpl tp (okK_up htp 1) k
  rw [E23, D23, checkM]
  by_cases h1 : k < 0
  · rw [if_pos (.inl h1)]
    simp -implicitDefEqProofs (disch := first | omega | (simp only [rB]; done) | exact plain_rep _ _ | exact map_plain_w _ | exact map_plain_y _ | (apply plain_cons; repeat (first | exact plain_nil | apply plain_cons)) | (simp only [rL] <;> omega) | fail) only [↓rP, rO, Int.reduceAdd, Int.reduceSub, Int.reduceMul, Int.reduceNeg, Int.reduceToNat, Int.reduceLT, Int.reduceLE, Int.reduceEq, Nat.reduceAdd, Nat.reduceMul, Nat.reduceSub, Nat.reduceLT, Nat.reduceLeDiff, Nat.reduceEqDiff, rT, rI, cmfr, z16, new_vd, box_vd, parts_vd, dlen, map_fit_y, setAt_dd, take_d, fold_d, outV_vd, keep_vd, dcells_take, dcells_drop, dcells_app, bsd]
  · by_cases h2 : 1099511627776 < k
    · rw [if_pos (.inr (.inl h2))]
      simp -implicitDefEqProofs (disch := first | omega | (simp only [rB]; done) | exact plain_rep _ _ | exact map_plain_w _ | exact map_plain_y _ | (apply plain_cons; repeat (first | exact plain_nil | apply plain_cons)) | (simp only [rL] <;> omega) | fail) only [↓rP, rO, Int.reduceAdd, Int.reduceSub, Int.reduceMul, Int.reduceNeg, Int.reduceToNat, Int.reduceLT, Int.reduceLE, Int.reduceEq, Nat.reduceAdd, Nat.reduceMul, Nat.reduceSub, Nat.reduceLT, Nat.reduceLeDiff, Nat.reduceEqDiff, rT, rI, cmfr, z16, new_vd, box_vd, parts_vd, dlen, map_fit_y, setAt_dd, take_d, fold_d, outV_vd, keep_vd, dcells_take, dcells_drop, dcells_app, bsd]
    · by_cases h3 : ascFrom k (-1) ps = true
      · by_cases h4 : found.length = ps.length
        · rw [if_neg (by simp only [h3, h4, not_true_eq_false, or_false]; omega)]
          have h4' : (found.length : Int) = ps.length := by omega
          by_cases h5 : k = 0
          · rw [if_pos h5]
            have hE : ∀ S, acall (X0 zb) n 38 [] S = some (vd emptyD, S) := fun S => F38 (zb := zb) (s0 := S) n (by omega)
            have hdf := fun b => F47 (zb := zb) n [] s0 { blks := [⟨31, 0, root.val.map vy⟩, ⟨4, 0, [vb b]⟩, pblk 0 tag ⟨l, false⟩, pblk 0 tf ⟨found, false⟩, ⟨79, 0, [.ptr s0.length 2 0]⟩, ⟨79, 0, [.ptr s0.length 3 0]⟩], toks := [] } 1 2 0 0 4 tag ⟨l, false⟩ b (by decide) rfl rfl
            simp only [pblk, List.nil_append, List.set_cons_succ, List.set_cons_zero] at hdf
            simp -implicitDefEqProofs (disch := first | omega | (simp only [rB]; done) | exact plain_rep _ _ | exact map_plain_w _ | exact map_plain_y _ | (apply plain_cons; repeat (first | exact plain_nil | apply plain_cons)) | (simp only [rL] <;> omega) | fail) only [↓rP, rO, Int.reduceAdd, Int.reduceSub, Int.reduceMul, Int.reduceNeg, Int.reduceToNat, Int.reduceLT, Int.reduceLE, Int.reduceEq, Nat.reduceAdd, Nat.reduceMul, Nat.reduceSub, Nat.reduceLT, Nat.reduceLeDiff, Nat.reduceEqDiff, rT, rI, h3, h4', cmfr, z16, new_vd, box_vd, parts_vd, dlen, map_fit_y, setAt_dd, take_d, fold_d, outV_vd, keep_vd, dcells_take, dcells_drop, dcells_app, bsd, hb, hb2, hA, hE, fit_ptr, dig_eql, hdf, pblk]
          · rw [if_neg h5]
            have hasc := ascFrom_asc k ps (-1) h3
            obtain ⟨k, rfl⟩ : ∃ j : Nat, k = j := ⟨k.toNat, by omega⟩
            obtain ⟨t2, u2, r⟩ := F48 (zb := zb) s0 root false k (by omega) (by omega) n (by omega) 0 (by omega) (by omega) tp ps hasc.2 hpl htp tag ⟨l, false⟩ (by simp only; omega) tf ⟨found, false⟩ (by simp only; omega) []
            simp only [cmst, cmfr, List.nil_append] at r
            rw [Int.toNat_natCast]
            generalize climbM 0 k ps ⟨l, false⟩ ⟨found, false⟩ = R at *
            obtain ⟨D1, p1, q1⟩ := R
            simp only at r
            have hdf := fun b => F47 (zb := zb) n [] s0 (cmfr s0 root b t2 p1 u2 q1) 1 2 0 0 4 t2 p1 b (by decide) rfl rfl
            simp only [cmfr, List.nil_append, List.set_cons_succ, List.set_cons_zero] at hdf
            simp -implicitDefEqProofs (disch := first | omega | (simp only [rB]; done) | exact plain_rep _ _ | exact map_plain_w _ | exact map_plain_y _ | (apply plain_cons; repeat (first | exact plain_nil | apply plain_cons)) | (simp only [rL] <;> omega) | fail) only [↓rP, rO, Int.reduceAdd, Int.reduceSub, Int.reduceMul, Int.reduceNeg, Int.reduceToNat, Int.reduceLT, Int.reduceLE, Int.reduceEq, Nat.reduceAdd, Nat.reduceMul, Nat.reduceSub, Nat.reduceLT, Nat.reduceLeDiff, Nat.reduceEqDiff, rT, rI, h3, h4', cmfr, z16, new_vd, box_vd, parts_vd, dlen, map_fit_y, setAt_dd, take_d, fold_d, outV_vd, keep_vd, dcells_take, dcells_drop, dcells_app, bsd, hb, hb2, hA, fit_ptr, fit_fn3, aFunc_def, r, dig_eql, hdf]
        · rw [if_pos (by simp only [h4, not_false_eq_true, or_true])]
          have h4' : ¬ (found.length : Int) = ps.length := by omega
          simp -implicitDefEqProofs (disch := first | omega | (simp only [rB]; done) | exact plain_rep _ _ | exact map_plain_w _ | exact map_plain_y _ | (apply plain_cons; repeat (first | exact plain_nil | apply plain_cons)) | (simp only [rL] <;> omega) | fail) only [↓rP, rO, Int.reduceAdd, Int.reduceSub, Int.reduceMul, Int.reduceNeg, Int.reduceToNat, Int.reduceLT, Int.reduceLE, Int.reduceEq, Nat.reduceAdd, Nat.reduceMul, Nat.reduceSub, Nat.reduceLT, Nat.reduceLeDiff, Nat.reduceEqDiff, rT, rI, h3, h4', cmfr, z16, new_vd, box_vd, parts_vd, dlen, map_fit_y, setAt_dd, take_d, fold_d, outV_vd, keep_vd, dcells_take, dcells_drop, dcells_app, bsd, hA]
      · rw [if_pos (.inr (.inr (.inl h3)))]
        rw [Bool.not_eq_true] at h3
        simp -implicitDefEqProofs (disch := first | omega | (simp only [rB]; done) | exact plain_rep _ _ | exact map_plain_w _ | exact map_plain_y _ | (apply plain_cons; repeat (first | exact plain_nil | apply plain_cons)) | (simp only [rL] <;> omega) | fail) only [↓rP, rO, Int.reduceAdd, Int.reduceSub, Int.reduceMul, Int.reduceNeg, Int.reduceToNat, Int.reduceLT, Int.reduceLE, Int.reduceEq, Nat.reduceAdd, Nat.reduceMul, Nat.reduceSub, Nat.reduceLT, Nat.reduceLeDiff, Nat.reduceEqDiff, rT, rI, h3, cmfr, z16, new_vd, box_vd, parts_vd, dlen, map_fit_y, setAt_dd, take_d, fold_d, outV_vd, keep_vd, dcells_take, dcells_drop, dcells_app, bsd, hA]
end Go.Proofs.YtnfdepafmmibaaaDoor

/-! Hash trees: the reference's proof for several elements. Conditions: at most 2^20 digests and places. -/
set_option linter.unusedVariables false
set_option linter.unusedSimpArgs false
set_option maxRecDepth 20000
set_option maxHeartbeats 1000000
namespace Go.Proofs.YtnfdepafmmibaaaDoor
open Go
variable {zb : Bool}
section
variable {s0 : St}
theorem icells_snoc (l : List Int) (x : Int) : icells l ++ [.v (.int .i64 x)] = icells (l ++ [x]) := by simp [icells]
theorem R17 (n : Nat) (kk : AX → Env → St → Res)
    (hE : ∀ v0 v1 v2 v3 v4 v5 v6 v7 v8 v9 v10 v11 v12 v13 v14 v15 v16 v17 v18 v19 v20 v21 v22 v23 v24 v25, kk (.exit 0) ⟨v0 :: v1 :: v2 :: v3 :: v4 :: v5 :: v6 :: v7 :: v8 :: v9 :: v10 :: v11 :: v12 :: v13 :: v14 :: v15 :: v16 :: v17 :: v18 :: v19 :: v20 :: v21 :: v22 :: v23 :: v24 :: v25 :: [], []⟩ ({ blks := [], toks := [] } :: s0) = some (vb true, s0))
    (hR : ∀ v0 v1 v2 v3 v5 v6 v7 v8 v9 v10 v11 v12 v13 v14 v15 v16 v17 v18 v19 v20 v21 v22 v23 v24 v25, kk .ret ⟨v0 :: v1 :: v2 :: v3 :: vb false :: v5 :: v6 :: v7 :: v8 :: v9 :: v10 :: v11 :: v12 :: v13 :: v14 :: v15 :: v16 :: v17 :: v18 :: v19 :: v20 :: v21 :: v22 :: v23 :: v24 :: v25 :: [], []⟩ ({ blks := [], toks := [] } :: s0) = some (vb false, s0))
    (l m : List Dig) (hl : l.length < 2 ^ 40) (hlm : m.length = l.length) (tag tag2 : Tag) (ht : okK s0.length tag) (ht2 : okK s0.length tag2) : ∀ (rest rest2 : List Dig) (i : Nat) (hi : l.drop i = rest) (hi2 : m.drop i = rest2) (r : Nat),
    lp17_4 (Y0 zb) (acall (X0 zb) n) n 0 0 kk (r + 1 + rest.length) (.list tag l.length (dcells l)) (.list tag2 l.length (dcells m)) (vi i) ({ blks := [], toks := [] } :: s0) = some (vb (decide (rest = rest2)), s0)
  | [], rest2, i, hi, hi2, r => by
    have h1 : l.length ≤ i := List.drop_eq_nil_iff.1 hi
    have h2 : rest2 = [] := by rw [← hi2]; exact List.drop_eq_nil_iff.2 (by omega)
    subst h2
    rw [List.length_nil, Nat.add_zero, D17L4]
    simp -implicitDefEqProofs (disch := first | omega | (simp only [rB]; done) | (simp only [rL] <;> omega) | fail) only [↓rP, rO, Int.reduceAdd, Int.reduceSub, Int.reduceMul, Int.reduceNeg, Int.reduceToNat, Int.reduceLT, Int.reduceLE, Int.reduceEq, Nat.reduceAdd, Nat.reduceMul, Nat.reduceSub, Nat.reduceLT, Nat.reduceLeDiff, Nat.reduceEqDiff, rT, rI, hE]
  | x :: rest, rest2, i, hi, hi2, r => by
    have h1 : i < l.length := by
      rcases Nat.lt_or_ge i l.length with h | h
      · exact h
      · rw [List.drop_of_length_le h] at hi; cases hi
    obtain ⟨y, rest2, rfl⟩ : ∃ y r, rest2 = y :: r := by
      cases rest2 with
      | nil => have := List.drop_eq_nil_iff.1 hi2; omega
      | cons y r => exact ⟨y, r, rfl⟩
    have hx : l.getD i Dig.zero = x := by
      rw [List.getD_eq_getElem?_getD, ← Nat.add_zero i, ← List.getElem?_drop, hi]; rfl
    have hy : m.getD i Dig.zero = y := by
      rw [List.getD_eq_getElem?_getD, ← Nat.add_zero i, ← List.getElem?_drop, hi2]; rfl
    have hd : l.drop (i + 1) = rest := by rw [← List.drop_drop, hi]; rfl
    have hd2 : m.drop (i + 1) = rest2 := by rw [← List.drop_drop, hi2]; rfl
    have hc := dcells_len l
    have hc2 := dcells_len m
    have e1 : (i : Int) + 1 = ((i + 1 : Nat) : Int) := by omega
    have hld := dig_at l i h1
    have hld2 := dig_at m i (by omega)
    rw [hx] at hld
    rw [hy] at hld2
    rw [List.length_cons, show r + 1 + (rest.length + 1) = (r + 1 + rest.length) + 1 by omega, D17L4]
    have ih := R17 n kk hE hR l m hl hlm tag tag2 ht ht2 rest rest2 (i + 1) hd hd2 r
    by_cases h2 : x = y
    · subst h2
      rw [show decide (x :: rest = x :: rest2) = decide (rest = rest2) by simp]
      simp -implicitDefEqProofs (disch := first | omega | (simp only [rB]; done) | (simp only [rL] <;> omega) | fail) only [↓rP, rO, Int.reduceAdd, Int.reduceSub, Int.reduceMul, Int.reduceNeg, Int.reduceToNat, Int.reduceLT, Int.reduceLE, Int.reduceEq, Nat.reduceAdd, Nat.reduceMul, Nat.reduceSub, Nat.reduceLT, Nat.reduceLeDiff, Nat.reduceEqDiff, rT, rI, hld, hld2, fold_d, dig_neq, e1, ih, keep_list _ _ _ _ _ _ ht, keep_list _ _ _ _ _ _ ht2]
    · rw [show decide (x :: rest = y :: rest2) = false by simp [h2]]
      simp -implicitDefEqProofs (disch := first | omega | (simp only [rB]; done) | (simp only [rL] <;> omega) | fail) only [↓rP, rO, Int.reduceAdd, Int.reduceSub, Int.reduceMul, Int.reduceNeg, Int.reduceToNat, Int.reduceLT, Int.reduceLE, Int.reduceEq, Nat.reduceAdd, Nat.reduceMul, Nat.reduceSub, Nat.reduceLT, Nat.reduceLeDiff, Nat.reduceEqDiff, rT, rI, hld, hld2, fold_d, dig_neq, h2, hR]
theorem F17 (n : Nat) (hn : 2 ^ 41 ≤ n) (l m : List Dig) (hl : l.length < 2 ^ 40) (hm : m.length < 2 ^ 40) (tag tag2 : Tag) (ht : okK s0.length tag) (ht2 : okK s0.length tag2) : acall (X0 zb) n 17 [.list tag l.length (dcells l), .list tag2 m.length (dcells m)] s0 = some (vb (decide (l = m)), s0) := by
  obtain ⟨n, rfl⟩ : ∃ k, n = k + 1 := ⟨n - 1, by omega⟩
  rw [E17, D17]
  by_cases h : m.length = l.length
  · rw [h]
    simp -implicitDefEqProofs (disch := first | omega | (simp only [rB]; done) | (simp only [rL] <;> omega) | fail) only [↓rP, rO, Int.reduceAdd, Int.reduceSub, Int.reduceMul, Int.reduceNeg, Int.reduceToNat, Int.reduceLT, Int.reduceLE, Int.reduceEq, Nat.reduceAdd, Nat.reduceMul, Nat.reduceSub, Nat.reduceLT, Nat.reduceLeDiff, Nat.reduceEqDiff, rT, rI]
    generalize hkk : kont _ _ _ _ _ _ _ = kk
    have e := R17 (zb := zb) (s0 := s0) n kk (by subst hkk; intros; rw [D17K4exit0]; simp -implicitDefEqProofs (disch := first | omega | (simp only [rB]; done) | (simp only [rL] <;> omega) | fail) only [↓rP, rO, Int.reduceAdd, Int.reduceSub, Int.reduceMul, Int.reduceNeg, Int.reduceToNat, Int.reduceLT, Int.reduceLE, Int.reduceEq, Nat.reduceAdd, Nat.reduceMul, Nat.reduceSub, Nat.reduceLT, Nat.reduceLeDiff, Nat.reduceEqDiff, rT, rI]) (by subst hkk; intros; rw [D17K4ret]; simp -implicitDefEqProofs (disch := first | omega | (simp only [rB]; done) | (simp only [rL] <;> omega) | fail) only [↓rP, rO, Int.reduceAdd, Int.reduceSub, Int.reduceMul, Int.reduceNeg, Int.reduceToNat, Int.reduceLT, Int.reduceLE, Int.reduceEq, Nat.reduceAdd, Nat.reduceMul, Nat.reduceSub, Nat.reduceLT, Nat.reduceLeDiff, Nat.reduceEqDiff, rT, rI]) l m hl h tag tag2 ht ht2 l m 0 rfl rfl (n - 1 - l.length)
    rw [show n - 1 - l.length + 1 + l.length = n by omega] at e
    exact e
  · have h2 : ¬ (l.length : Int) = (m.length : Int) := by omega
    have h3 : decide (l = m) = false := decide_eq_false fun e => h (by rw [e])
    rw [h3]
    simp -implicitDefEqProofs (disch := first | omega | (simp only [rB]; done) | (simp only [rL] <;> omega) | fail) only [↓rP, rO, Int.reduceAdd, Int.reduceSub, Int.reduceMul, Int.reduceNeg, Int.reduceToNat, Int.reduceLT, Int.reduceLE, Int.reduceEq, Nat.reduceAdd, Nat.reduceMul, Nat.reduceSub, Nat.reduceLT, Nat.reduceLeDiff, Nat.reduceEqDiff, rT, rI, h2]
end
end Go.Proofs.YtnfdepafmmibaaaDoor

/-! Hash trees: the reference's Many, walk and CheckMany. Conditions: at most 2^20 digests and places. -/
set_option linter.unusedVariables false
set_option linter.unusedSimpArgs false
set_option maxRecDepth 20000
set_option maxHeartbeats 1000000
namespace Go.Proofs.YtnfdepafmmibaaaDoor
open Go
variable {zb : Bool}
section
variable {s0 : St}
end
end Go.Proofs.YtnfdepafmmibaaaDoor

/-! The examples of the documentation, by plain functions. Conditions: none. -/
set_option linter.unusedVariables false
set_option linter.unusedSimpArgs false
set_option maxRecDepth 20000
set_option maxHeartbeats 1000000
namespace Go.Proofs.YtnfdepafmmibaaaDoor
open Go
theorem sp2 : splitN 2 = 1 := by decide
theorem sp3 : splitN 3 = 2 := by decide
section
variable (a b c : Dig)
theorem san_r1 : rootD [a] = a := rootD_1 rfl
theorem san_r2 : rootD [a, b] = nodeD a b := by
  rw [rootD_2 (by simp)]
  simp only [List.length_cons, List.length_nil, Nat.zero_add, Nat.reduceAdd, sp2, List.take_succ_cons, List.take_zero, List.drop_succ_cons, List.drop_zero, san_r1]
theorem san_r3 : rootD [a, b, c] = nodeD (nodeD a b) c := by
  rw [rootD_2 (by simp)]
  simp only [List.length_cons, List.length_nil, Nat.zero_add, Nat.reduceAdd, sp3, List.take_succ_cons, List.take_zero, List.drop_succ_cons, List.drop_zero, san_r1, san_r2]
theorem san_i0 : inclE [a, b, c] 0 = ([b, c], 0) := by
  have e1 : inclD [a] 0 = [] := inclD_1 (by simp)
  have e2 : inclD [a, b] 0 = [b] := by
    rw [inclD_lo (by simp) (by simp [sp2])]
    simp only [List.length_cons, List.length_nil, Nat.zero_add, Nat.reduceAdd, sp2, List.take_succ_cons, List.take_zero, List.drop_succ_cons, List.drop_zero, san_r1, e1, List.nil_append]
  have e3 : inclD [a, b, c] 0 = [b, c] := by
    rw [inclD_lo (by simp) (by simp [sp3])]
    simp only [List.length_cons, List.length_nil, Nat.zero_add, Nat.reduceAdd, sp3, List.take_succ_cons, List.take_zero, List.drop_succ_cons, List.drop_zero, san_r1, e2, List.nil_append, List.cons_append]
  rw [inclE, if_neg (by simp), Int.toNat_zero, e3]
theorem san_i2 : inclE [a, b, c] 2 = ([nodeD a b], 0) := by
  have e1 : inclD [c] 0 = [] := inclD_1 (by simp)
  have e3 : inclD [a, b, c] 2 = [nodeD a b] := by
    rw [inclD_hi (by simp) (by simp [sp3])]
    simp only [List.length_cons, List.length_nil, Nat.zero_add, Nat.reduceAdd, Nat.reduceSub, sp3, List.take_succ_cons, List.take_zero, List.drop_succ_cons, List.drop_zero, san_r2, e1, List.nil_append]
  rw [inclE, if_neg (by simp), show (2 : Int).toNat = 2 from rfl, e3]
theorem san_c1 : consE [a, b, c] 1 = ([b, c], 0) := by
  have e1 : consD [a] 1 true = [] := consD_all
  have e2 : consD [a, b] 1 true = [b] := by
    rw [consD_lo (by simp) (by simp) (by simp [sp2])]
    simp only [List.length_cons, List.length_nil, Nat.zero_add, Nat.reduceAdd, sp2, List.take_succ_cons, List.take_zero, List.drop_succ_cons, List.drop_zero, san_r1, e1, List.nil_append]
  have e3 : consD [a, b, c] 1 true = [b, c] := by
    rw [consD_lo (by simp) (by simp) (by simp [sp3])]
    simp only [List.length_cons, List.length_nil, Nat.zero_add, Nat.reduceAdd, sp3, List.take_succ_cons, List.take_zero, List.drop_succ_cons, List.drop_zero, san_r1, e2, List.nil_append, List.cons_append]
  rw [consE, if_neg (by simp), if_neg (by simp), show (1 : Int).toNat = 1 from rfl, e3]
theorem san_c2 : consE [a, b, c] 2 = ([c], 0) := by
  have e1 : consD [a, b] 2 true = [] := consD_all
  have e3 : consD [a, b, c] 2 true = [c] := by
    rw [consD_lo (by simp) (by simp) (by simp [sp3])]
    simp only [List.length_cons, List.length_nil, Nat.zero_add, Nat.reduceAdd, sp3, List.take_succ_cons, List.take_zero, List.drop_succ_cons, List.drop_zero, san_r1, e1, List.nil_append, List.cons_append]
  rw [consE, if_neg (by simp), if_neg (by simp), show (2 : Int).toNat = 2 from rfl, e3]
theorem san_m : manyE [a, b, c] [0, 2] = ([b], 0) := by
  have k1 : cutN 1 [0] = 1 := by decide
  have k2 : cutN 2 [0, 2] = 1 := by decide
  have e1 : manyD [a] 0 [0] = [] := manyD_1 (by simp) (by simp)
  have e2 : manyD [b] 1 [] = [b] := by rw [manyD_0 rfl, san_r1]
  have e3 : manyD [a, b] 0 [0] = [b] := by
    rw [manyD_2 (by simp) (by simp)]
    simp only [List.length_cons, List.length_nil, Nat.zero_add, Nat.reduceAdd, sp2, List.take_succ_cons, List.take_zero, List.drop_succ_cons, List.drop_zero, Int.zero_add, Int.natCast_one, Int.cast_ofNat_Int, k1, e1, e2, List.nil_append]
  have e4 : manyD [c] 2 [2] = [] := manyD_1 (by simp) (by simp)
  have e5 : manyD [a, b, c] 0 [0, 2] = [b] := by
    rw [manyD_2 (by simp) (by simp)]
    simp only [List.length_cons, List.length_nil, Nat.zero_add, Nat.reduceAdd, sp3, List.take_succ_cons, List.take_zero, List.drop_succ_cons, List.drop_zero, Int.zero_add, Int.natCast_one, Int.cast_ofNat_Int, k2, e3, e4, List.append_nil]
  have h0 : ascFrom ([a, b, c].length : Nat) (-1) [0, 2] = true := by
    show ascFrom 3 (-1) [0, 2] = true
    decide
  rw [manyE, if_pos h0, if_pos (by simp), e5]
theorem san_k1 : checkI a 0 3 [b, c] (nodeD (nodeD a b) c) = true := by
  rw [checkI, if_neg (by decide)]
  have e : climbI a 0 3 ⟨[b, c], false⟩ = (nodeD (nodeD a b) c, ⟨[], false⟩) := by
    rw [climbI_lo (by simp) (by simp [sp3]), sp3, climbI_lo (by simp) (by simp [sp2]), sp2, climbI_1 (by simp)]
    simp [Pt.last]
  rw [show (3 : Int).toNat = 3 from rfl, Int.toNat_zero, e]
  simp [settled]
theorem san_k2 : checkC 1 3 a (nodeD (nodeD a b) c) [b, c] = true := by
  rw [checkC, if_neg (by decide), if_neg (by decide)]
  have e : climbC a 1 3 true ⟨[b, c], false⟩ = ((a, nodeD (nodeD a b) c), ⟨[], false⟩) := by
    rw [climbC_lo (by simp) (by simp) (by simp [sp3]), sp3, climbC_lo (by simp) (by simp) (by simp [sp2]), sp2, climbC_all, if_pos rfl]
    simp [Pt.last]
  rw [show (3 : Int).toNat = 3 from rfl, show (1 : Int).toNat = 1 from rfl, e]
  simp [settled]
theorem san_k3 : checkM 3 [0, 2] [a, c] [b] (nodeD (nodeD a b) c) = true := by
  have k1 : cutN 1 [0] = 1 := by decide
  have k2 : cutN 2 [0, 2] = 1 := by decide
  rw [checkM, if_neg (by simp; decide), if_neg (by decide)]
  have e1 : climbM 0 1 [0] ⟨[b], false⟩ ⟨[a, c], false⟩ = (a, ⟨[b], false⟩, ⟨[c], false⟩) := by rw [climbM_1 (by simp) (by simp)]; simp [Pt.first]
  have e2 : climbM 1 1 [] ⟨[b], false⟩ ⟨[c], false⟩ = (b, ⟨[], false⟩, ⟨[c], false⟩) := by rw [climbM_0 (by simp)]; simp [Pt.first]
  have e3 : climbM 0 2 [0] ⟨[b], false⟩ ⟨[a, c], false⟩ = (nodeD a b, ⟨[], false⟩, ⟨[c], false⟩) := by
    rw [climbM_2 (by simp) (by simp)]
    simp only [sp2, Int.zero_add, Int.natCast_one, Int.cast_ofNat_Int, k1, List.take_succ_cons, List.take_zero, List.drop_succ_cons, List.drop_zero, e1, Nat.reduceSub, e2]
  have e4 : climbM 2 1 [2] ⟨[], false⟩ ⟨[c], false⟩ = (c, ⟨[], false⟩, ⟨[], false⟩) := by rw [climbM_1 (by simp) (by simp)]; simp [Pt.first]
  have e : climbM 0 3 [0, 2] ⟨[b], false⟩ ⟨[a, c], false⟩ = (nodeD (nodeD a b) c, ⟨[], false⟩, ⟨[], false⟩) := by
    rw [climbM_2 (by simp) (by simp)]
    simp only [sp3, Int.zero_add, Int.natCast_one, Int.cast_ofNat_Int, k2, List.take_succ_cons, List.take_zero, List.drop_succ_cons, List.drop_zero, e3, Nat.reduceSub, e4]
  rw [show (3 : Int).toNat = 3 from rfl, e]
  simp [settled]
theorem san_k4 : checkI a 0 3 [nodeD a b] (nodeD (nodeD a b) c) = false := by
  rw [checkI, if_neg (by decide)]
  have e : (climbI a 0 3 ⟨[nodeD a b], false⟩).2 = ⟨[], true⟩ := by
    rw [climbI_lo (by simp) (by simp [sp3]), sp3, climbI_lo (by simp) (by simp [sp2]), sp2, climbI_1 (by simp)]
    simp [Pt.last]
  rw [show (3 : Int).toNat = 3 from rfl, Int.toNat_zero, e]
  simp [settled]
theorem carry_0 : carry 0 = 0 := by rw [carry, if_neg (by decide)]
theorem carry_1 : carry 1 = 1 := by rw [carry, if_pos (by decide), carry_0]
theorem carry_2 : carry 2 = 0 := by rw [carry, if_neg (by decide)]
theorem ones_0 : ones 0 = 0 := by rw [ones, if_pos rfl]
theorem ones_1 : ones 1 = 1 := by rw [ones, if_neg (by decide), show 1 / 2 = 0 from rfl, ones_0]
theorem ones_2 : ones 2 = 1 := by rw [ones, if_neg (by decide), show 2 / 2 = 1 from rfl, ones_1]
theorem san_g1 : growP 0 [] a = ⟨1, [a], 0⟩ := by
  rw [growP, if_pos ⟨by decide, by decide, by rw [Int.toNat_zero, ones_0]; rfl⟩, if_neg (by decide), Int.toNat_zero, carry_0]; rfl
theorem san_g2 : growP 1 [a] b = ⟨2, [nodeD a b], 0⟩ := by
  rw [growP, if_pos ⟨by decide, by decide, by rw [show (1 : Int).toNat = 1 from rfl, ones_1]; rfl⟩, if_neg (by decide), show (1 : Int).toNat = 1 from rfl, carry_1]; rfl
theorem san_g3 : growP 2 [a] c = ⟨3, [a, c], 0⟩ := by
  rw [growP, if_pos ⟨by decide, by decide, by rw [show (2 : Int).toNat = 2 from rfl, ones_2]; rfl⟩, if_neg (by decide), show (2 : Int).toNat = 2 from rfl, carry_2]; rfl
end
end Go.Proofs.YtnfdepafmmibaaaDoor

/-! The examples of the documentation: sanity. Conditions: none. -/
set_option linter.unusedVariables false
set_option linter.unusedSimpArgs false
set_option maxRecDepth 20000
set_option maxHeartbeats 4000000
namespace Go.Proofs.YtnfdepafmmibaaaDoor
open Go
theorem setAt_app (A D B : List AV) (h : B.length ≤ D.length) : setAt (A ++ D) A.length B = A ++ setAt D 0 B := by
  rw [setAt_eqs _ _ _ (by rw [List.length_append]; omega), setAt_eqs _ _ _ (by omega)]
  simp [List.take_append, List.drop_append]
theorem set2 (cs A B : List AV) (h : cs.length = 32) (hA : A.length = 16) (hB : B.length = 16) : setAt (setAt cs 0 A) 16 B = A ++ B := by
  have e1 : setAt cs 0 A = A ++ cs.drop 16 := by rw [setAt_eqs _ _ _ (by omega), hA]; rfl
  have e2 := setAt_app A (cs.drop 16) B (by rw [List.length_drop]; omega)
  rw [hA] at e2
  rw [e1, e2, setAt_all _ _ (by rw [List.length_drop]; omega)]
theorem set3 (cs A B C : List AV) (h : cs.length = 48) (hA : A.length = 16) (hB : B.length = 16) (hC : C.length = 16) : setAt (setAt (setAt cs 0 A) 16 B) 32 C = A ++ (B ++ C) := by
  have e1 : setAt cs 0 A = A ++ cs.drop 16 := by rw [setAt_eqs _ _ _ (by omega), hA]; rfl
  have e2 := setAt_app A (cs.drop 16) B (by rw [List.length_drop]; omega)
  rw [hA] at e2
  have e3 : setAt (cs.drop 16) 0 B = B ++ cs.drop 32 := by rw [setAt_eqs _ _ _ (by rw [List.length_drop]; omega), hB, List.drop_drop]; rfl
  have e4 := setAt_app (A ++ B) (cs.drop 32) C (by rw [List.length_drop]; omega)
  rw [List.length_append, hA, hB] at e4
  rw [e1, e2, e3, ← List.append_assoc, e4, setAt_all _ _ (by rw [List.length_drop]; omega), List.append_assoc]
theorem bsd2 (a b : Dig) : aBuildSlice (Y0 true).P 22 2 [(0, vd a), (1, vd b)] = some (.list .full 2 (dcells [a, b])) := by
  have hz : zCells (Y0 true).P 31 = some (List.replicate 16 (vy 0)) := z31
  have e1 := set2 (repl (List.replicate 16 (vy 0)) 2) (a.val.map vy) (b.val.map vy) (by decide) (dlen a) (dlen b)
  have e2 : dvs (a.val.map vy ++ b.val.map vy) = some (dcells [a, b]) := by
    rw [← List.map_append, dvs_map (fun b : UInt8 => Value.int .u8 (b.toNat : Int)) (a.val ++ b.val)]
    simp [dcells, bcells]
  unfold aBuildSlice
  simp only [U22, hz, C31]
  rw [if_pos (by decide)]
  simp only [aFill, parts_vd, Nat.zero_mul, Nat.one_mul]
  rw [if_pos ⟨dlen a, by decide⟩, if_pos ⟨dlen b, by rw [setAt_len]; decide⟩, e1]
  simp only [Option.bind_some, e2, Option.map_some]
theorem bsd3 (a b c : Dig) : aBuildSlice (Y0 true).P 22 3 [(0, vd a), (1, vd b), (2, vd c)] = some (.list .full 3 (dcells [a, b, c])) := by
  have hz : zCells (Y0 true).P 31 = some (List.replicate 16 (vy 0)) := z31
  have e1 := set3 (repl (List.replicate 16 (vy 0)) 3) (a.val.map vy) (b.val.map vy) (c.val.map vy) (by decide) (dlen a) (dlen b) (dlen c)
  have e2 : dvs (a.val.map vy ++ (b.val.map vy ++ c.val.map vy)) = some (dcells [a, b, c]) := by
    rw [← List.map_append, ← List.map_append, dvs_map (fun b : UInt8 => Value.int .u8 (b.toNat : Int)) (a.val ++ (b.val ++ c.val))]
    simp [dcells, bcells]
  unfold aBuildSlice
  simp only [U22, hz, C31]
  rw [if_pos (by decide)]
  simp only [aFill, parts_vd, Nat.zero_mul, Nat.one_mul, Nat.reduceMul]
  rw [if_pos ⟨dlen a, by decide⟩, if_pos ⟨dlen b, by rw [setAt_len]; decide⟩, if_pos ⟨dlen c, by rw [setAt_len, setAt_len]; decide⟩, e1]
  simp only [Option.bind_some, e2, Option.map_some]
theorem new_pk (t : TypeId) (x : Value) (f : Frm) (r : St) : newBlk t [.v x, .list .full 0 []] (f :: r) =
    some (.ptr r.length f.blks.length 0, { blks := f.blks ++ [{ ty := t, tk := f.toks.length + 1, cells := [.v x, .list (.own r.length f.toks.length) 0 []] }], toks := f.toks ++ [0] } :: r) := by
  rw [newBlk_def]
  simp only [tok_v, tok_full, tok_nil, List.length_append, List.length_cons, List.length_nil, List.map_cons, List.map_nil, fit_v, Nat.zero_add]
  rw [fit_own _ _ _ _ _ _ _ (.inr ⟨rfl, by omega⟩)]
section
variable {s0 : St}
theorem F9 (n : Nat) (hn : 2 ^ 57 ≤ n) : acall (X0 true) n 9 [] s0 = some (vb true, s0) := by
  obtain ⟨n, rfl⟩ : ∃ k, n = k + 1 := ⟨n - 1, by omega⟩
  have hLa := fun S => F14 (zb := true) (s0 := S) n (by omega) [97] (by decide)
  have hLb := fun S => F14 (zb := true) (s0 := S) n (by omega) [98] (by decide)
  have hLc := fun S => F14 (zb := true) (s0 := S) n (by omega) [99] (by decide)
  have hRa := fun S => F18 (zb := true) (s0 := S) n (by omega) [97] (by decide)
  generalize leafD [97] = a at *
  generalize leafD [98] = b at *
  generalize leafD [99] = c at *
  have hN := fun S a b => F19 (zb := true) (s0 := S) n (by omega) a b
  have hRN := fun S a b => F20 (zb := true) (s0 := S) n (by omega) a b
  have hI0 := fun S tag => F10 (zb := true) S n (by omega) tag [a, b, c] (by simp) 0 (by decide) (by decide)
  have hI2 := fun S tag => F10 (zb := true) S n (by omega) tag [a, b, c] (by simp) 2 (by decide) (by decide)
  have hC1 := fun S tag => F11 (zb := true) S n (by omega) tag [a, b, c] (by simp) 1 (by decide) (by decide)
  have hC2 := fun S tag => F11 (zb := true) S n (by omega) tag [a, b, c] (by simp) 2 (by decide) (by decide)
  have hM := fun S tag => F21 (zb := true) S n (by omega) tag [a, b, c] (by simp) .full [0, 2] (by decide) trivial
  rw [san_i0] at hI0
  rw [san_i2] at hI2
  rw [san_c1] at hC1
  rw [san_c2] at hC2
  rw [san_m] at hM
  have hR := fun S tag => F15 (zb := true) 3 (by decide) n (by omega) tag [a, b, c] rfl S
  rw [san_r3] at hR
  have hS := fun S l m hl hm tag ht => F17 (zb := true) (s0 := S) n (by omega) l m hl hm tag .full ht trivial
  have hG : ∀ S (p : ApArgs), acall (X0 true) n 28 p.av S = some (p.res, S) := by
    intro S p
    obtain ⟨k, hk⟩ : ∃ k, n = k + 1 := ⟨n - 1, by omega⟩
    rw [hk, E28]
    exact ocAppend_eq p S
  have hG1 := fun S tag => hG S ⟨0, tag, [], a⟩
  have hG2 := fun S tag => hG S ⟨1, tag, [a], b⟩
  have hG3 := fun S tag => hG S ⟨2, tag, [nodeD a b], c⟩
  simp only [ApArgs.av, ApArgs.res, san_g1, san_g2, san_g3, peaksV, dcells_nil, List.length_nil, List.length_cons] at hG1 hG2 hG3
  have hS1 : ∀ S x, acall (X0 true) n 17 [.list .none 1 (dcells [x]), .list .full 1 (dcells [x])] S = some (vb true, S) := fun S x => by
    have := hS S [x] [x] (by simp) (by simp) .none trivial
    rwa [decide_eq_true rfl] at this
  have hS2 : ∀ S x y, acall (X0 true) n 17 [.list .none 2 (dcells [x, y]), .list .full 2 (dcells [x, y])] S = some (vb true, S) := fun S x y => by
    have := hS S [x, y] [x, y] (by simp) (by simp) .none trivial
    rwa [decide_eq_true rfl] at this
  have hK1 := fun S => F25 (zb := true) S n (by omega) a (nodeD (nodeD a b) c) 0 3 .none [b, c] (by simp) (.inl rfl)
  have hK2 := fun S => F26 (zb := true) S n (by omega) a (nodeD (nodeD a b) c) 1 3 .none [b, c] (by simp) (.inl rfl)
  have hK3 := fun S => F23 (zb := true) S n (by omega) 3 .full [0, 2] (by simp) trivial .full [a, c] (by simp) (.inr (.inl ⟨rfl, by simp⟩)) .none [b] (by simp) (.inl rfl) (nodeD (nodeD a b) c)
  have hK4 := fun S => F25 (zb := true) S n (by omega) a (nodeD (nodeD a b) c) 0 3 .none [nodeD a b] (by simp) (.inl rfl)
  rw [san_k1] at hK1
  rw [san_k2] at hK2
  rw [san_k3] at hK3
  rw [san_k4] at hK4
  have d0 : ((dcells [a, b, c]).take 16).map DV.av = a.val.map vy := dig_at0 [a, b, c] (by simp)
  have d1 : (((dcells [a, b, c]).drop 16).take 16).map DV.av = b.val.map vy := dig_at [a, b, c] 1 (by simp)
  have d2 : (((dcells [a, b, c]).drop 32).take 16).map DV.av = c.val.map vy := dig_at [a, b, c] 2 (by simp)
  have d3 : (dcells [a, b, c]).length = 48 := by rw [dcells_len]; rfl
  rw [E9, D9]
  simp only [List.length_cons, List.length_nil, Nat.zero_add, Nat.reduceAdd] at *
  have hic : icells [0, 2] = [.v (.int .i64 0), .v (.int .i64 2)] := rfl
  rw [hic] at hM hK3
  simp -implicitDefEqProofs (disch := first | omega | (simp only [rB]; done) | (simp only [rL] <;> omega) | fail) only [↓rP, rO, Int.reduceAdd, Int.reduceSub, Int.reduceMul, Int.reduceNeg, Int.reduceToNat, Int.reduceLT, Int.reduceLE, Int.reduceEq, Nat.reduceAdd, Nat.reduceMul, Nat.reduceSub, Nat.reduceLT, Nat.reduceLeDiff, Nat.reduceEqDiff, rT, rI, z16, new_vd, box_vd, parts_vd, dlen, map_fit_y, setAt_dd, take_d, fold_d, outV_vd, keep_vd, dcells_app, bsd, bsd2, bsd3, ext0, ext1, new_pk, fit_own, fit_full, fit_none, outV_own, hLa, hLb, hLc, hN, hI0, hI2, hC1, hC2, hM]
  generalize hkk : kont _ _ _ _ _ _ _ = kk
  obtain ⟨m, hm⟩ : ∃ m, n = m + 4 := ⟨n - 4, by omega⟩
  conv => lhs; arg 7; rw [hm]
  rw [D9L14]
  simp -implicitDefEqProofs (disch := first | omega | (simp only [rB]; done) | (simp only [rL] <;> omega) | fail) only [↓rP, rO, Int.reduceAdd, Int.reduceSub, Int.reduceMul, Int.reduceNeg, Int.reduceToNat, Int.reduceLT, Int.reduceLE, Int.reduceEq, Nat.reduceAdd, Nat.reduceMul, Nat.reduceSub, Nat.reduceLT, Nat.reduceLeDiff, Nat.reduceEqDiff, rT, rI, z16, new_vd, box_vd, parts_vd, dlen, map_fit_y, setAt_dd, take_d, fold_d, outV_vd, keep_vd, dcells_app, bsd, bsd2, bsd3, ext0, ext1, new_pk, fit_own, fit_full, fit_none, outV_own, hG1, d0, d1, d2, d3]
  rw [D9L14]
  simp -implicitDefEqProofs (disch := first | omega | (simp only [rB]; done) | (simp only [rL] <;> omega) | fail) only [↓rP, rO, Int.reduceAdd, Int.reduceSub, Int.reduceMul, Int.reduceNeg, Int.reduceToNat, Int.reduceLT, Int.reduceLE, Int.reduceEq, Nat.reduceAdd, Nat.reduceMul, Nat.reduceSub, Nat.reduceLT, Nat.reduceLeDiff, Nat.reduceEqDiff, rT, rI, z16, new_vd, box_vd, parts_vd, dlen, map_fit_y, setAt_dd, take_d, fold_d, outV_vd, keep_vd, dcells_app, bsd, bsd2, bsd3, ext0, ext1, new_pk, fit_own, fit_full, fit_none, outV_own, hG2, d0, d1, d2, d3]
  rw [D9L14]
  simp -implicitDefEqProofs (disch := first | omega | (simp only [rB]; done) | (simp only [rL] <;> omega) | fail) only [↓rP, rO, Int.reduceAdd, Int.reduceSub, Int.reduceMul, Int.reduceNeg, Int.reduceToNat, Int.reduceLT, Int.reduceLE, Int.reduceEq, Nat.reduceAdd, Nat.reduceMul, Nat.reduceSub, Nat.reduceLT, Nat.reduceLeDiff, Nat.reduceEqDiff, rT, rI, z16, new_vd, box_vd, parts_vd, dlen, map_fit_y, setAt_dd, take_d, fold_d, outV_vd, keep_vd, dcells_app, bsd, bsd2, bsd3, ext0, ext1, new_pk, fit_own, fit_full, fit_none, outV_own, hG3, d0, d1, d2, d3]
  rw [D9L14]
  simp -implicitDefEqProofs (disch := first | omega | (simp only [rB]; done) | (simp only [rL] <;> omega) | fail) only [↓rP, rO, Int.reduceAdd, Int.reduceSub, Int.reduceMul, Int.reduceNeg, Int.reduceToNat, Int.reduceLT, Int.reduceLE, Int.reduceEq, Nat.reduceAdd, Nat.reduceMul, Nat.reduceSub, Nat.reduceLT, Nat.reduceLeDiff, Nat.reduceEqDiff, rT, rI, z16, new_vd, box_vd, parts_vd, dlen, map_fit_y, setAt_dd, take_d, fold_d, outV_vd, keep_vd, dcells_app, bsd, bsd2, bsd3, ext0, ext1, new_pk, fit_own, fit_full, fit_none, outV_own]
  subst hkk
  rw [D9K14exit0]
  simp -implicitDefEqProofs (disch := first | omega | (simp only [rB]; done) | (simp only [rL] <;> omega) | fail) only [↓rP, rO, Int.reduceAdd, Int.reduceSub, Int.reduceMul, Int.reduceNeg, Int.reduceToNat, Int.reduceLT, Int.reduceLE, Int.reduceEq, Nat.reduceAdd, Nat.reduceMul, Nat.reduceSub, Nat.reduceLT, Nat.reduceLeDiff, Nat.reduceEqDiff, rT, rI, z16, new_vd, box_vd, parts_vd, dlen, map_fit_y, setAt_dd, take_d, fold_d, outV_vd, keep_vd, dcells_app, bsd, bsd2, bsd3, ext0, ext1, new_pk, fit_own, fit_full, fit_none, outV_own, dig_eql, hR, hRa, hRN, hS1, hS2, hK1, hK2, hK3, hK4]
  done
end
end Go.Proofs.YtnfdepafmmibaaaDoor

/-! Two laws: the proofs match the specification, and those for several elements. Conditions: none. -/
set_option linter.unusedVariables false
set_option linter.unusedSimpArgs false
set_option maxRecDepth 20000
set_option maxHeartbeats 4000000
namespace Go.Proofs.YtnfdepafmmibaaaDoor
open Go
theorem consE_len (l : List Dig) (i : Int) : (consE l i).1.length ≤ l.length + 1 := by
  unfold consE
  split
  · simp
  · split
    · simp
    · have := consD_len _ l i.toNat true rfl; omega
section
variable {s0 : St}
end
end Go.Proofs.YtnfdepafmmibaaaDoor

/-! How many ones a number has. Conditions: none. -/
set_option linter.unusedVariables false
set_option linter.unusedSimpArgs false
set_option maxRecDepth 20000
set_option maxHeartbeats 1000000
namespace Go.Proofs.YtnfdepafmmibaaaDoor
open Go
variable {zb : Bool}
theorem mk85 : mk 85 8 = 6148914691236517205 := by decide
theorem mk51 : mk 51 8 = 3689348814741910323 := by decide
theorem mk15 : mk 15 8 = 1085102592571150095 := by decide
theorem i_and127 (P : Program) (t : TypeId) (z : Nat) (h : z < 2 ^ 62) : aBin P .and t (vi z) (vi 127) = some (vi ((z % 128 : Nat) : Int)) := by
  have e0 : (127 : Int) = ((127 : Nat) : Int) := rfl
  rw [b_and, e0]
  have e : ((BitVec.ofInt (IntKind.bits .i64) (z : Int) &&& BitVec.ofInt (IntKind.bits .i64) ((127 : Nat) : Int)).toNat) = z % 128 := by
    rw [BitVec.toNat_and]
    have e1 : (BitVec.ofInt (IntKind.bits .i64) (z : Int)).toNat = z := by
      rw [BitVec.toNat_ofInt]; simp only [IntKind.bits]; omega
    have e2 : (BitVec.ofInt (IntKind.bits .i64) ((127 : Nat) : Int)).toNat = 127 := by
      rw [BitVec.toNat_ofInt]; simp only [IntKind.bits]; omega
    rw [e1, e2, show (127 : Nat) = 2 ^ 7 - 1 from rfl, Nat.and_two_pow_sub_one_eq_mod]
  rw [e, wi_id (by omega) (by omega)]
section
variable {s0 : St}
theorem F83 (n : Nat) (hn : 1 ≤ n) (x : Nat) (hx : x < 2 ^ 64) : acall (X0 zb) n 83 [vq x] s0 = some (vi (ones x), s0) := by
  obtain ⟨n, rfl⟩ : ∃ k, n = k + 1 := ⟨n - 1, by omega⟩
  have b1 : ∀ a, a < 256 → po1 a < 256 := by decide +kernel
  have b2 : ∀ a, a < 256 → po2 (po1 a) < 256 := by decide +kernel
  have b3 : ∀ a, a < 256 → po2 (po1 a) % 16 ≤ 4 ∧ po2 (po1 a) / 16 ≤ 4 := by decide +kernel
  have eA := po1_k 8 x (by omega)
  have lA := byt_lt po1 b1 8 x
  have eB := po2_k 8 (byt po1 8 x) lA
  rw [byt_byt po1 po2 b1] at eB
  have lB := byt_lt (fun a => po2 (po1 a)) b2 8 x
  have lB2 := byt_le (fun a => po2 (po1 a)) 68 (by decide +kernel) 8 x
  rw [show mk 1 8 = 72340172838076673 by decide] at lB2
  have eC := po3_k (fun a => po2 (po1 a)) b3 8 x
  obtain ⟨y, hy, ly, ey⟩ := ones_go x hx
  rw [hy] at eC
  rw [mk85] at eA
  rw [mk51] at eB
  rw [mk15] at eC
  generalize byt po1 8 x = A at *
  generalize byt (fun a => po2 (po1 a)) 8 x = B at *
  have g1 : ∀ z : Nat, aBin (Y0 zb).P .shr 42 (vq z) (vq 1) = some (vq (z / 2)) := fun z => q_shr _ _ _ _ 1 (by decide)
  have g2 : ∀ z : Nat, aBin (Y0 zb).P .shr 42 (vq z) (vq 2) = some (vq (z / 4)) := fun z => q_shr _ _ _ _ 2 (by decide)
  have g4 : ∀ z : Nat, aBin (Y0 zb).P .shr 42 (vq z) (vq 4) = some (vq (z / 16)) := fun z => q_shr _ _ _ _ 4 (by decide)
  have g8 : ∀ z : Nat, aBin (Y0 zb).P .shr 42 (vq z) (vq 8) = some (vq (z / 256)) := fun z => q_shr _ _ _ _ 8 (by decide)
  have g16 : ∀ z : Nat, aBin (Y0 zb).P .shr 42 (vq z) (vq 16) = some (vq (z / 65536)) := fun z => q_shr _ _ _ _ 16 (by decide)
  have g32 : ∀ z : Nat, aBin (Y0 zb).P .shr 42 (vq z) (vq 32) = some (vq (z / 4294967296)) := fun z => q_shr _ _ _ _ 32 (by decide)
  have ad : ∀ u v z : Nat, u + v = z → z < 18446744073709551616 → aBin (Y0 zb).P .add 42 (vq u) (vq v) = some (vq z) := fun u v z h h2 => by
    subst h; exact q_add _ _ _ _ h2
  have an : ∀ u v : Nat, u < 18446744073709551616 → v < 18446744073709551616 → aBin (Y0 zb).P .and 42 (vq u) (vq v) = some (vq (u &&& v)) := fun u v h h2 => q_and _ _ _ _ h h2
  have a1 := an (x / 2) 6148914691236517205 (by omega) (by decide)
  have a2 := an x 6148914691236517205 (by omega) (by decide)
  have s1 := ad _ _ _ eA (by omega)
  have a3 := an (A / 4) 3689348814741910323 (by omega) (by decide)
  have a4 := an A 3689348814741910323 (by omega) (by decide)
  have s2 := ad _ _ _ eB (by omega)
  have s3 := ad (B / 16) B _ rfl (by omega)
  have a5 := an (B / 16 + B) 1085102592571150095 (by omega) (by decide)
  rw [eC] at a5
  have s4 := ad y (y / 256) _ rfl (by omega)
  generalize hy1 : y + y / 256 = y1 at *
  have s5 := ad y1 (y1 / 65536) _ rfl (by omega)
  generalize hy2 : y1 + y1 / 65536 = y2 at *
  have s6 := ad y2 (y2 / 4294967296) _ rfl (by omega)
  generalize hy3 : y2 + y2 / 4294967296 = y3 at *
  have w3 : IntKind.wrap .i64 (y3 : Int) = (y3 : Int) := wi_id (by omega) (by omega)
  have a6 := i_and127 (Y0 zb).P 3 y3 (by omega)
  rw [ey] at a6
  rw [E83, D83]
  simp -implicitDefEqProofs (disch := first | omega | (simp only [rB]; done) | (simp only [rL] <;> omega) | fail) only [↓rP, rO, Int.reduceAdd, Int.reduceSub, Int.reduceMul, Int.reduceNeg, Int.reduceToNat, Int.reduceLT, Int.reduceLE, Int.reduceEq, Nat.reduceAdd, Nat.reduceMul, Nat.reduceSub, Nat.reduceLT, Nat.reduceLeDiff, Nat.reduceEqDiff, rT, rI, g1, g2, g4, g8, g16, g32, a1, a2, s1, a3, a4, s2, s3, a5, s4, s5, s6, w3, a6]
theorem F69 (n : Nat) (hn : 2 ≤ n) (x : Nat) (hx : x < 2 ^ 64) : acall (X0 zb) n 69 [vq x] s0 = some (vi (ones x), s0) := by
  obtain ⟨n, rfl⟩ : ∃ k, n = k + 1 := ⟨n - 1, by omega⟩
  have h := fun S => F83 (zb := zb) (s0 := S) n (by omega) x hx
  rw [E69, D69]
  simp -implicitDefEqProofs (disch := first | omega | (simp only [rB]; done) | (simp only [rL] <;> omega) | fail) only [↓rP, rO, Int.reduceAdd, Int.reduceSub, Int.reduceMul, Int.reduceNeg, Int.reduceToNat, Int.reduceLT, Int.reduceLE, Int.reduceEq, Nat.reduceAdd, Nat.reduceMul, Nat.reduceSub, Nat.reduceLT, Nat.reduceLeDiff, Nat.reduceEqDiff, rT, rI, h]
end
end Go.Proofs.YtnfdepafmmibaaaDoor

/-! How many zeros are at a number's end. Conditions: none. -/
set_option linter.unusedVariables false
set_option linter.unusedSimpArgs false
set_option maxRecDepth 20000
set_option maxHeartbeats 1000000
namespace Go.Proofs.YtnfdepafmmibaaaDoor
open Go
variable {zb : Bool}
theorem tabz : ∀ k, k < 64 → tab1[(2 ^ k * 285870213051353865 % 18446744073709551616) / 288230376151711744]? = some (.v (.int .u8 (k : Int))) ∧ (2 ^ k * 285870213051353865 % 18446744073709551616) / 288230376151711744 < 64 := by
  have h : ((List.range 64).all fun k => (match tab1[(2 ^ k * 285870213051353865 % 18446744073709551616) / 288230376151711744]? with
    | some (DV.v (Value.int IntKind.u8 z)) => decide (z = (k : Int))
    | _ => false) && decide ((2 ^ k * 285870213051353865 % 18446744073709551616) / 288230376151711744 < 64)) = true := by decide +kernel
  intro k hk
  have h1 := List.all_eq_true.1 h k (List.mem_range.2 hk)
  rw [Bool.and_eq_true] at h1
  refine ⟨?_, by simpa using h1.2⟩
  have h2 := h1.1
  split at h2
  · rename_i z hz
    rw [hz, of_decide_eq_true h2]
  · cases h2
section
variable {s0 : St}
theorem F71 (n : Nat) (hn : 1 ≤ n) (x : Nat) (hx : x < 2 ^ 64) : acall (X0 zb) n 71 [vq x] s0 = some (vi (ctz x), s0) := by
  obtain ⟨n, rfl⟩ : ∃ k, n = k + 1 := ⟨n - 1, by omega⟩
  rw [E71, D71]
  by_cases h0 : x = 0
  · subst h0
    rw [ctz, if_pos rfl]
    simp -implicitDefEqProofs (disch := first | omega | (simp only [rB]; done) | (simp only [rL] <;> omega) | fail) only [↓rP, rO, Int.reduceAdd, Int.reduceSub, Int.reduceMul, Int.reduceNeg, Int.reduceToNat, Int.reduceLT, Int.reduceLE, Int.reduceEq, Nat.reduceAdd, Nat.reduceMul, Nat.reduceSub, Nat.reduceLT, Nat.reduceLeDiff, Nat.reduceEqDiff, rT, rI]
    rfl
  · have hc := ctz_lt 64 x (by omega) hx
    have ha := and_neg 64 x (by omega) hx
    obtain ⟨t1, t2⟩ := tabz (ctz x) hc
    have h0' : ¬ (x : Int) = 0 := by omega
    have n1 : IntKind.wrap .u64 (0 - (x : Int)) = ((2 ^ 64 - x : Nat) : Int) := by rw [wq_mod]; omega
    have a1 : aBin (Y0 zb).P .and 42 (vq x) (vq (2 ^ 64 - x)) = some (vq (2 ^ ctz x)) := by
      rw [q_and _ _ _ _ (by omega) (by omega), ha]
    have m1 : aBin (Y0 zb).P .mul 42 (vq (2 ^ ctz x)) (vq 285870213051353865) = some (vq (2 ^ ctz x * 285870213051353865 % 18446744073709551616)) := by
      rw [b_mul, wq_mod]; rfl
    have s1 : aBin (Y0 zb).P .shr 42 (vq (2 ^ ctz x * 285870213051353865 % 18446744073709551616)) (vq 58) = some (vq (2 ^ ctz x * 285870213051353865 % 18446744073709551616 / 288230376151711744)) := q_shr _ _ _ _ 58 (by decide)
    have hun : aUn (Y0 zb).P .neg (vq x) = some (vq (2 ^ 64 - x)) := by rw [u_neg, n1]
    have hgl : (Y0 zb).gl 1 = .lptr tab1 0 := rfl
    generalize 2 ^ ctz x * 285870213051353865 % 18446744073709551616 / 288230376151711744 = j at *
    have w3 : IntKind.wrap .i64 (ctz x : Int) = (ctz x : Int) := wi_id (by omega) (by omega)
    simp -implicitDefEqProofs (disch := first | omega | (simp only [rB]; done) | (simp only [rL] <;> omega) | fail) only [↓rP, rO, Int.reduceAdd, Int.reduceSub, Int.reduceMul, Int.reduceNeg, Int.reduceToNat, Int.reduceLT, Int.reduceLE, Int.reduceEq, Nat.reduceAdd, Nat.reduceMul, Nat.reduceSub, Nat.reduceLT, Nat.reduceLeDiff, Nat.reduceEqDiff, rT, rI, h0', hun, a1, m1, s1, hgl, t1, w3, DV.av]
theorem F55 (n : Nat) (hn : 2 ≤ n) (x : Nat) (hx : x < 2 ^ 64) : acall (X0 zb) n 55 [vq x] s0 = some (vi (ctz x), s0) := by
  obtain ⟨n, rfl⟩ : ∃ k, n = k + 1 := ⟨n - 1, by omega⟩
  have h := fun S => F71 (zb := zb) (s0 := S) n (by omega) x hx
  rw [E55, D55]
  simp -implicitDefEqProofs (disch := first | omega | (simp only [rB]; done) | (simp only [rL] <;> omega) | fail) only [↓rP, rO, Int.reduceAdd, Int.reduceSub, Int.reduceMul, Int.reduceNeg, Int.reduceToNat, Int.reduceLT, Int.reduceLE, Int.reduceEq, Nat.reduceAdd, Nat.reduceMul, Nat.reduceSub, Nat.reduceLT, Nat.reduceLeDiff, Nat.reduceEqDiff, rT, rI, h]
end
end Go.Proofs.YtnfdepafmmibaaaDoor

/-! Whether peaks are well-formed. Conditions: none. -/
set_option linter.unusedVariables false
set_option linter.unusedSimpArgs false
set_option maxRecDepth 20000
set_option maxHeartbeats 1000000
namespace Go.Proofs.YtnfdepafmmibaaaDoor
open Go
variable {zb : Bool}
theorem box_peaks (t : TypeId) (tag : Tag) (n : Nat) (cs : List DV) (x : Value) (f : Frm) (r : St) (h : okT r.length tag n) :
    aBox t (.agg [.v x, .list tag n cs]) (f :: r) = some (.ptr r.length f.blks.length 0, { blks := f.blks ++ [{ ty := t, tk := f.toks.length, cells := [.v x, .list tag n cs] }], toks := f.toks } :: r) := by
  have : aBox t (.agg [.v x, .list tag n cs]) (f :: r) = newBlk t [.v x, .list tag n cs] (f :: r) := rfl
  rw [this, newBlk_def]
  simp only [tok_list _ _ _ _ h, tok_v, tok_nil, List.map_cons, List.map_nil, fit_okT _ _ _ _ _ _ h, fit_v]
section
variable {s0 : St}
theorem FU54 (n : Nat) (hn : 3 ≤ n) (size : Int) (tops : List Dig) :
    acall (X0 zb) n 54 [.agg [vi size, .list .none tops.length (dcells tops)]] s0 = some (vb (decide (formed size tops)), s0) := by
  obtain ⟨n, rfl⟩ : ∃ k, n = k + 1 := ⟨n - 1, by omega⟩
  have hb : ∀ f, aBox 51 (.agg [vi size, .list .none tops.length (dcells tops)]) (f :: s0) = _ := fun f => box_peaks 51 .none tops.length (dcells tops) _ f s0 (.inl rfl)
  rw [E54, D54]
  by_cases c1 : 0 ≤ size
  · by_cases c2 : size ≤ 1099511627776
    · obtain ⟨k, rfl⟩ : ∃ k : Nat, size = k := ⟨size.toNat, by omega⟩
      have ho := fun S => F69 (zb := zb) (s0 := S) n (by omega) k (by omega)
      have wk1 : IntKind.wrap .u64 (k : Int) = (k : Int) := wq_id (by omega) (by omega)
      by_cases c3 : tops.length = ones k
      · rw [decide_eq_true (show formed k tops from ⟨c1, by unfold maxLeaves; omega, by rw [Int.toNat_natCast]; exact c3⟩)]
        have c3' : (tops.length : Int) = (ones k : Int) := by omega
        simp -implicitDefEqProofs (disch := first | omega | (simp only [rB]; done) | (simp only [rL] <;> omega) | fail) only [↓rP, rO, Int.reduceAdd, Int.reduceSub, Int.reduceMul, Int.reduceNeg, Int.reduceToNat, Int.reduceLT, Int.reduceLE, Int.reduceEq, Nat.reduceAdd, Nat.reduceMul, Nat.reduceSub, Nat.reduceLT, Nat.reduceLeDiff, Nat.reduceEqDiff, rT, rI, hb, ho, wk1, c3']
      · rw [decide_eq_false (show ¬ formed k tops from fun h => c3 (by have := h.2.2; rwa [Int.toNat_natCast] at this))]
        have c3' : ¬ (tops.length : Int) = (ones k : Int) := by omega
        simp -implicitDefEqProofs (disch := first | omega | (simp only [rB]; done) | (simp only [rL] <;> omega) | fail) only [↓rP, rO, Int.reduceAdd, Int.reduceSub, Int.reduceMul, Int.reduceNeg, Int.reduceToNat, Int.reduceLT, Int.reduceLE, Int.reduceEq, Nat.reduceAdd, Nat.reduceMul, Nat.reduceSub, Nat.reduceLT, Nat.reduceLeDiff, Nat.reduceEqDiff, rT, rI, hb, ho, wk1, c3']
    · rw [decide_eq_false (show ¬ formed size tops from fun h => c2 (by have := h.2.1; unfold maxLeaves at this; omega))]
      simp -implicitDefEqProofs (disch := first | omega | (simp only [rB]; done) | (simp only [rL] <;> omega) | fail) only [↓rP, rO, Int.reduceAdd, Int.reduceSub, Int.reduceMul, Int.reduceNeg, Int.reduceToNat, Int.reduceLT, Int.reduceLE, Int.reduceEq, Nat.reduceAdd, Nat.reduceMul, Nat.reduceSub, Nat.reduceLT, Nat.reduceLeDiff, Nat.reduceEqDiff, rT, rI, hb]
  · rw [decide_eq_false (show ¬ formed size tops from fun h => c1 h.1)]
    simp -implicitDefEqProofs (disch := first | omega | (simp only [rB]; done) | (simp only [rL] <;> omega) | fail) only [↓rP, rO, Int.reduceAdd, Int.reduceSub, Int.reduceMul, Int.reduceNeg, Int.reduceToNat, Int.reduceLT, Int.reduceLE, Int.reduceEq, Nat.reduceAdd, Nat.reduceMul, Nat.reduceSub, Nat.reduceLT, Nat.reduceLeDiff, Nat.reduceEqDiff, rT, rI, hb]
theorem F54 (n : Nat) (hn : 3 ≤ n) (size : Int) (tops : List Dig) (h1 : -9223372036854775808 ≤ size) (h2 : size < 9223372036854775808) (hl : tops.length < 2 ^ 60) :
    acall (X0 zb) n 54 [.agg [vi size, .list .none tops.length (dcells tops)]] s0 = some (vb (decide (formed size tops)), s0) := FU54 n hn size tops
end
end Go.Proofs.YtnfdepafmmibaaaDoor

/-! The reference's count of ones, and whether peaks are well-formed. Conditions: none. -/
set_option linter.unusedVariables false
set_option linter.unusedSimpArgs false
set_option maxRecDepth 20000
set_option maxHeartbeats 1000000
namespace Go.Proofs.YtnfdepafmmibaaaDoor
open Go
variable {zb : Bool}
section
variable {s0 : St}
end
end Go.Proofs.YtnfdepafmmibaaaDoor

/-! The reference's Top and Append of peaks. Conditions: none. -/
set_option linter.unusedVariables false
set_option linter.unusedSimpArgs false
set_option maxRecDepth 20000
set_option maxHeartbeats 1000000
namespace Go.Proofs.YtnfdepafmmibaaaDoor
open Go
variable {zb : Bool}
theorem new_z (t : TypeId) (f : Frm) (r : St) : newBlk t (List.replicate 16 (AV.v (.int .u8 0))) (f :: r) = some (.ptr r.length f.blks.length 0, { blks := f.blks ++ [{ ty := t, tk := f.toks.length, cells := Dig.zero.val.map vy }], toks := f.toks } :: r) := new_vd t Dig.zero f r
section
variable {s0 : St}
theorem ones_le : ∀ k x, x < 2 ^ k → ones x ≤ k
  | 0, x, h => by
    obtain rfl : x = 0 := by omega
    rw [ones, if_pos rfl]; omega
  | k + 1, x, h => by
    rw [Nat.pow_succ] at h
    rw [ones]
    split
    · omega
    · have := ones_le k (x / 2) (by omega)
      omega
end
end Go.Proofs.YtnfdepafmmibaaaDoor

/-! The reference's Append of peaks. Conditions: none. -/
set_option linter.unusedVariables false
set_option linter.unusedSimpArgs false
set_option maxRecDepth 20000
set_option maxHeartbeats 1000000
namespace Go.Proofs.YtnfdepafmmibaaaDoor
open Go
variable {zb : Bool}
theorem fit_own_no (d k tk d' k' n : Nat) (cs : List DV) (h : ¬ (d' < d ∨ d' = d ∧ k' < tk)) : fit d k tk (.list (.own d' k') n cs) = .list .none n cs := if_neg h
theorem carry_le : ∀ (m n : Nat), n ≤ m → carry n ≤ ones n
  | 0, n, h => by
    obtain rfl : n = 0 := by omega
    rw [carry, if_neg (by decide)]; omega
  | m + 1, n, h => by
    by_cases h0 : n = 0
    · subst h0; rw [carry, if_neg (by decide)]; omega
    rw [carry, ones, if_neg h0]
    split
    · have := carry_le m (n / 2) (by omega)
      omega
    · omega
section
variable {s0 : St}
end
end Go.Proofs.YtnfdepafmmibaaaDoor

/-! The law MerklePeaksMatchSpec at the machine. Conditions: none. -/
set_option linter.unusedVariables false
set_option linter.unusedSimpArgs false
set_option maxRecDepth 20000
set_option maxHeartbeats 2000000
namespace Go.Proofs.YtnfdepafmmibaaaDoor
open Go
section
variable {s0 : St}
end
end Go.Proofs.YtnfdepafmmibaaaDoor

/-! The law MerklePeaksGrow at the machine. Conditions: none. -/
set_option linter.unusedVariables false
set_option linter.unusedSimpArgs false
set_option maxRecDepth 20000
set_option maxHeartbeats 4000000
namespace Go.Proofs.YtnfdepafmmibaaaDoor
open Go
section
variable {s0 : St}
end
end Go.Proofs.YtnfdepafmmibaaaDoor

/-! Pairs of digests in the machine: building, reading, equality. Conditions: none. -/
set_option linter.unusedVariables false
set_option linter.unusedSimpArgs false
set_option maxRecDepth 20000
set_option maxHeartbeats 1000000
namespace Go.Proofs.YtnfdepafmmibaaaDoor
open Go
variable {zb : Bool}
end Go.Proofs.YtnfdepafmmibaaaDoor

/-! The pairs on the way to a root, at the machine. Conditions: a path of at most 60 digests. -/
set_option linter.unusedVariables false
set_option linter.unusedSimpArgs false
set_option maxRecDepth 20000
set_option maxHeartbeats 2000000
namespace Go.Proofs.YtnfdepafmmibaaaDoor
open Go
variable {zb : Bool}
section
variable {s0 : St}
inductive BTag (d : Nat) : Tag → List Bool → Prop
  | own : BTag d (.own d 1) []
  | full (l : List Bool) : BTag d .full l
  | none (l : List Bool) : BTag d .none l
theorem BTag.keep {d : Nat} {tag : Tag} {l : List Bool} (h : BTag d tag l) (m q : Nat) (hq : 2 ≤ q) (c : List DV) : Go.Proofs.YtnfdepafmmibaaaDoor.keep d m q (.list tag l.length c) = .list tag l.length c := by
  cases h with
  | own => exact keep_own _ _ _ _ _ _ _ (.inr ⟨rfl, by omega⟩)
  | full l => rfl
  | none l => rfl
end
end Go.Proofs.YtnfdepafmmibaaaDoor

/-! The pairs on the way to a root, at the machine (2). Conditions: a path of at most 60 digests. -/
set_option linter.unusedVariables false
set_option linter.unusedSimpArgs false
set_option maxRecDepth 20000
set_option maxHeartbeats 2000000
namespace Go.Proofs.YtnfdepafmmibaaaDoor
open Go
variable {zb : Bool}
section
variable {s0 : St}
def s15 (leaf d : Dig) (k : Nat) (s0 : St) : St := { blks := [{ ty := 31, tk := 0, cells := leaf.val.map vy }, { ty := 31, tk := 3, cells := d.val.map vy }], toks := [0, 0, k] } :: s0
end
end Go.Proofs.YtnfdepafmmibaaaDoor

/-! The pairs on the way to a root at the machine (3), and the law MerkleProofsBind. Conditions: none. -/
set_option linter.unusedVariables false
set_option linter.unusedSimpArgs false
set_option maxRecDepth 20000
set_option maxHeartbeats 4000000
namespace Go.Proofs.YtnfdepafmmibaaaDoor
open Go
variable {zb : Bool}
section
variable {s0 : St}
end
end Go.Proofs.YtnfdepafmmibaaaDoor

/-! The law MerkleProofsBind at the machine. Conditions: none. -/
set_option linter.unusedVariables false
set_option linter.unusedSimpArgs false
set_option maxRecDepth 20000
set_option maxHeartbeats 4000000
namespace Go.Proofs.YtnfdepafmmibaaaDoor
open Go
section
variable {s0 : St}
end
end Go.Proofs.YtnfdepafmmibaaaDoor

/-! The law MerkleProofsAreAccepted at the machine: its loops. Conditions: none. -/
set_option linter.unusedVariables false
set_option linter.unusedSimpArgs false
set_option maxRecDepth 20000
set_option maxHeartbeats 4000000
namespace Go.Proofs.YtnfdepafmmibaaaDoor
open Go
/-! ### The chosen places -/
def bitB (c k : Nat) : Bool := decide (c / 2 ^ k % 2 = 1)
def places (c : Nat) : Nat → List Int
  | 0 => []
  | k + 1 => if bitB c k = true then places c k ++ [(k : Int)] else places c k
theorem places_mem (c : Nat) : ∀ (k : Nat) (i : Int), i ∈ places c k → 0 ≤ i ∧ i < k
  | 0, i, h => by simp [places] at h
  | k + 1, i, h => by
    rw [places] at h
    split at h
    · rcases List.mem_append.1 h with h | h
      · have := places_mem c k i h; omega
      · have := List.mem_singleton.1 h; omega
    · have := places_mem c k i h; omega
theorem places_asc (c : Nat) : ∀ k : Nat, Asc (places c k)
  | 0 => List.Pairwise.nil
  | k + 1 => by
    rw [places]
    split
    · refine List.pairwise_append.2 ⟨places_asc c k, List.pairwise_singleton .., fun i hi j hj => ?_⟩
      have := places_mem c k i hi
      have := List.mem_singleton.1 hj
      omega
    · exact places_asc c k
theorem places_len (c : Nat) : ∀ k : Nat, (places c k).length ≤ k
  | 0 => Nat.le_refl _
  | k + 1 => by
    have := places_len c k
    rw [places]
    split
    · rw [List.length_append, List.length_singleton]; omega
    · omega
theorem pick_len (l : List Dig) (a : Int) (ps : List Int) : (pick l a ps).length = ps.length := by simp [pick]
theorem pick_snoc (l : List Dig) (ps : List Int) (k : Nat) : pick l 0 ps ++ [l.getD k Dig.zero] = pick l 0 (ps ++ [(k : Int)]) := by
  simp [pick]
/-! ### The least power of 2 that is not less -/
def powN (m : Nat) : Nat := if m ≤ 1 then 1 else 2 * splitN m
theorem powN_no {m : Nat} (h : powN m ≠ m) : NoPow m := by
  intro e he
  unfold powN at h
  split at h
  · rename_i h1
    have := Nat.two_pow_pos e
    omega
  · rename_i h1
    cases e with
    | zero => simp at he; omega
    | succ e =>
      rw [Nat.pow_succ] at he
      have := Nat.two_pow_pos e
      have := splitN_unique (n := m) (e := e) (by omega) (by omega) (by omega)
      omega
section
variable {s0 : St}
def s13 (a b c : Dig) (k : Nat) (s0 : St) : St := { blks := [{ ty := 31, tk := 0, cells := a.val.map vy }, { ty := 31, tk := 0, cells := b.val.map vy }, { ty := 31, tk := 0, cells := c.val.map vy }], toks := [k, k] } :: s0
theorem R135 (n : Nat) (kk : AX → Env → St → Res) (res : Res) (l : List Dig) (hl : l.length ≤ 40) (c : Nat) (hc : c < 18446744073709551616) (at_ m : Int) (ot rt od : Dig) (n16 n18 : Nat) (c16 c18 : List DV) (w17 w19 : Value) (x16 x17 x18 x19 : AV) (h16 : x16 = .list .none n16 c16) (h18 : x18 = .list .none n18 c18) (h17 : x17 = .v w17) (h19 : x19 = .v w19) (P : List Int) (hP : places c l.length = P)
    (hE : ∀ v1 v2 v3 v4 v5 v6 v7 v8 v10 v22 v23 v24 v25 v26 v27 v28 v29 v30 v31 v32 v33 v34 v35 v36 v37 v38 v39 v40 v41 v42 v43 v44 v45 v46 v47 v48 v49 v50 v51 v52 v53 v54 v55 v56 v57 v58 v59 v60 v61 v62 v63 v64 v65 v66 v67 v68 v69 v70 v71 v72 v73 v74 v75 v76 v77 v78 v79 v80 v81 v82 v83 v84 v85 v86 v87 v88 v89 v90 v91 v92 v93 v94 v95 v96 v97 v98 v99 v100 v101 v102 v103 v104 v105 v106 v107 v108 v109 v110 v111 v112 v113 v114 v115 v116 v117 v118 v119 v120 v121 v122 v123 v124 v125 v126 v127 v128 v129 v130 v131 v132 v133 v134 v135 v136 v137 v138 v139 v140 v141 v142 v143 v144 v145 v146 v147 v148 v149 v150 v151 v152 v153 v154 v155 v156 v157 v158 v159 v160 v161 v162 v163 v164 v165 v166 v167 v168 v169 v170, kk (.exit 0) ⟨.list .none l.length (dcells l) :: v1 :: v2 :: v3 :: v4 :: v5 :: v6 :: v7 :: v8 :: .ptr s0.length 0 0 :: v10 :: vi l.length :: vi at_ :: vi m :: .ptr s0.length 1 0 :: .ptr s0.length 2 0 :: x16 :: x17 :: x18 :: x19 :: .list (.own s0.length 0) P.length (icells P) :: .list (.own s0.length 1) P.length (dcells (pick l 0 P)) :: v22 :: v23 :: v24 :: v25 :: v26 :: v27 :: v28 :: v29 :: v30 :: v31 :: v32 :: v33 :: v34 :: v35 :: v36 :: v37 :: v38 :: v39 :: v40 :: v41 :: v42 :: v43 :: v44 :: v45 :: v46 :: v47 :: v48 :: v49 :: v50 :: v51 :: v52 :: v53 :: v54 :: v55 :: v56 :: v57 :: v58 :: v59 :: v60 :: v61 :: v62 :: v63 :: v64 :: v65 :: v66 :: v67 :: v68 :: v69 :: v70 :: v71 :: v72 :: v73 :: v74 :: v75 :: v76 :: v77 :: v78 :: v79 :: v80 :: v81 :: v82 :: v83 :: v84 :: v85 :: v86 :: v87 :: v88 :: v89 :: v90 :: v91 :: v92 :: v93 :: v94 :: v95 :: v96 :: v97 :: v98 :: v99 :: v100 :: v101 :: v102 :: v103 :: v104 :: v105 :: v106 :: v107 :: v108 :: v109 :: v110 :: v111 :: v112 :: v113 :: v114 :: v115 :: v116 :: v117 :: v118 :: v119 :: v120 :: v121 :: v122 :: v123 :: v124 :: v125 :: v126 :: v127 :: v128 :: v129 :: v130 :: v131 :: v132 :: v133 :: v134 :: v135 :: v136 :: v137 :: v138 :: v139 :: v140 :: v141 :: v142 :: v143 :: v144 :: v145 :: v146 :: v147 :: v148 :: v149 :: v150 :: v151 :: v152 :: v153 :: v154 :: v155 :: v156 :: v157 :: v158 :: v159 :: v160 :: v161 :: v162 :: v163 :: v164 :: v165 :: v166 :: v167 :: v168 :: v169 :: v170 :: [], []⟩ (s13 ot rt od P.length s0) = res) :
    ∀ (j k : Nat) (p : List Int) (f : List Dig) (r : Nat), k + j = l.length → places c k = p → pick l 0 p = f →
    lp5_13 (Y0 true) (acall (X0 true) n) n 3 2 kk (r + 1 + j) (.list .none l.length (dcells l)) (vq c) (.ptr s0.length 0 0) (vi l.length) (vi at_) (vi m) (.ptr s0.length 1 0) (.ptr s0.length 2 0) x16 x17 x18 x19 (.list (.own s0.length 0) p.length (icells p)) (.list (.own s0.length 1) p.length (dcells f)) (vi k) (s13 ot rt od p.length s0) = res := by
  have hcl := dcells_len l
  intro j
  induction j with
  | zero =>
    intro k p f r hk hp hf
    obtain rfl : k = l.length := by omega
    rw [hP] at hp
    subst hp hf
    rw [Nat.add_zero, D5L13]
    unfold s13 at hE ⊢
    simp -implicitDefEqProofs (disch := first | omega | (simp only [rB]; done) | (simp only [rL] <;> omega) | fail) only [↓rP, rO, Int.reduceAdd, Int.reduceSub, Int.reduceMul, Int.reduceNeg, Int.reduceToNat, Int.reduceLT, Int.reduceLE, Int.reduceEq, Nat.reduceAdd, Nat.reduceMul, Nat.reduceSub, Nat.reduceLT, Nat.reduceLeDiff, Nat.reduceEqDiff, rT, rI]
    exact hE _ _ _ _ _ _ _ _ _ _ _ _ _ _ _ _ _ _ _ _ _ _ _ _ _ _ _ _ _ _ _ _ _ _ _ _ _ _ _ _ _ _ _ _ _ _ _ _ _ _ _ _ _ _ _ _ _ _ _ _ _ _ _ _ _ _ _ _ _ _ _ _ _ _ _ _ _ _ _ _ _ _ _ _ _ _ _ _ _ _ _ _ _ _ _ _ _ _ _ _ _ _ _ _ _ _ _ _ _ _ _ _ _ _ _ _ _ _ _ _ _ _ _ _ _ _ _ _ _ _ _ _ _ _ _ _ _ _ _ _ _ _ _ _ _ _ _ _ _ _ _ _ _ _ _ _ _ _
  | succ j ih =>
    intro k p f r hk hp hf
    have hpl := places_len c k
    rw [hp] at hpl
    have e1 : (k : Int) + 1 = ((k + 1 : Nat) : Int) := by omega
    have b1 := q_shr (Y0 true).P 42 .i64 c k (by omega)
    have hq : c / 2 ^ k < 18446744073709551616 := Nat.lt_of_le_of_lt (Nat.div_le_self _ _) hc
    have b2 := q_and (Y0 true).P 42 (c / 2 ^ k) 1 hq (by decide)
    have b3 : aBin (Y0 true).P .eql 42 (vq (c / 2 ^ k &&& 1)) (vq 1) = some (vb (bitB c k)) := by
      rw [b_eql, Nat.and_one_is_mod]
      congr 2
      unfold bitB
      congr 1
      exact propext ⟨fun h => by omega, fun h => by omega⟩
    have hld := fun s => load_at (zb := true) l k s (by omega)
    have hcf : (dcells f).length = p.length * 16 := by rw [dcells_len, ← hf, pick_len]
    have hci := icells_len p
    rw [show r + 1 + (j + 1) = (r + 1 + j) + 1 by omega, D5L13]
    subst h16 h17 h18 h19
    generalize c / 2 ^ k &&& 1 = q2 at *
    generalize c / 2 ^ k = q1 at *
    cases hb : bitB c k with
    | true =>
      rw [hb] at b3
      have i1 := ih (k + 1) (p ++ [(k : Int)]) (f ++ [l.getD k Dig.zero]) r (by omega) (by rw [places, if_pos hb, hp]) (by rw [← pick_snoc, hf])
      unfold s13 at i1 ⊢
      simp only [List.length_append, List.length_singleton] at i1
      simp -implicitDefEqProofs (disch := first | omega | (simp only [rB]; done) | (simp only [rL] <;> omega) | fail) only [↓rP, rO, Int.reduceAdd, Int.reduceSub, Int.reduceMul, Int.reduceNeg, Int.reduceToNat, Int.reduceLT, Int.reduceLE, Int.reduceEq, Nat.reduceAdd, Nat.reduceMul, Nat.reduceSub, Nat.reduceLT, Nat.reduceLeDiff, Nat.reduceEqDiff, rT, rI, b1, b2, b3, hld, bsd, icells_snoc, dcells_app, e1, i1]
    | false =>
      rw [hb] at b3
      have i1 := ih (k + 1) p f r (by omega) (by rw [places, if_neg (by rw [hb]; decide), hp]) hf
      unfold s13 at i1 ⊢
      simp -implicitDefEqProofs (disch := first | omega | (simp only [rB]; done) | (simp only [rL] <;> omega) | fail) only [↓rP, rO, Int.reduceAdd, Int.reduceSub, Int.reduceMul, Int.reduceNeg, Int.reduceToNat, Int.reduceLT, Int.reduceLE, Int.reduceEq, Nat.reduceAdd, Nat.reduceMul, Nat.reduceSub, Nat.reduceLT, Nat.reduceLeDiff, Nat.reduceEqDiff, rT, rI, b1, b2, b3, hld, e1, i1]
theorem R225 (n : Nat) (kk : AX → Env → St → Res) (ln : Int) (x18 : AV) (n18 : Nat) (c18 : List DV) (h18 : x18 = .list .none n18 c18) (S : Frm) (m : Nat) (hm : 2 ≤ m) (h2 : m < 2 ^ 41) (e : Nat) (nt : Nat) (hS : S.blks.length = 3) (hT : S.toks.length = nt) : 2 ^ e < 2 * m → ∀ r,
    lp5_22 (Y0 true) (acall (X0 true) n) n 3 nt kk (r + e) (.ptr s0.length 0 0) (vi ln) (vi m) (.ptr s0.length 1 0) (.ptr s0.length 2 0) x18 (vi 1) (S :: s0)
    = lp5_22 (Y0 true) (acall (X0 true) n) n 3 nt kk r (.ptr s0.length 0 0) (vi ln) (vi m) (.ptr s0.length 1 0) (.ptr s0.length 2 0) x18 (vi (2 ^ e : Nat)) (S :: s0) := by
  subst h18
  induction e with
  | zero => intro _ r; rfl
  | succ e ih =>
    intro he r
    rw [Nat.pow_succ] at he ⊢
    have hp := Nat.two_pow_pos e
    rw [show r + (e + 1) = (r + 1) + e by omega, ih (by omega) (r + 1), D5L22]
    generalize 2 ^ e = p at *
    have e1 : (2 : Int) * (p : Int) = ((p * 2 : Nat) : Int) := by omega
    have ht : S.toks.take nt = S.toks := List.take_of_length_le (by omega)
    have hb : S.blks.take 3 = S.blks := List.take_of_length_le (by omega)
    simp -implicitDefEqProofs (disch := first | omega | (simp only [rB]; done) | (simp only [rL] <;> omega) | fail) only [↓rP, rO, Int.reduceAdd, Int.reduceSub, Int.reduceMul, Int.reduceNeg, Int.reduceToNat, Int.reduceLT, Int.reduceLE, Int.reduceEq, Nat.reduceAdd, Nat.reduceMul, Nat.reduceSub, Nat.reduceLT, Nat.reduceLeDiff, Nat.reduceEqDiff, rT, rI, e1, ht, hb, ite_self]
end
end Go.Proofs.YtnfdepafmmibaaaDoor

/-! The law MerkleProofsAreAccepted at the machine. Conditions: none. -/
set_option linter.unusedVariables false
set_option linter.unusedSimpArgs false
set_option maxRecDepth 20000
set_option maxHeartbeats 4000000
namespace Go.Proofs.YtnfdepafmmibaaaDoor
open Go
/-! ### What the checks answer -/
theorem inclE_ok (l : List Dig) (i : Nat) (h : i < l.length) : inclE l i = (inclD l i, 0) := by
  rw [inclE, if_neg (by omega), Int.toNat_natCast]
theorem acc_i (l : List Dig) (i : Nat) (h : i < l.length) (h2 : l.length ≤ 40) : checkI (l.getD i Dig.zero) i l.length (inclD l i) (rootD l) = true := by
  rw [checkI, if_neg (by omega)]
  have r := climbI_ok _ l i [] false (Nat.le_refl _) h
  rw [List.nil_append] at r
  simp only [Int.toNat_natCast, r, settled, decide_true, Bool.not_false, List.length_nil, Bool.and_self]
theorem consE_ok (l : List Dig) (m : Nat) (h : m ≤ l.length) : consE l m = ((consE l m).1, 0) := by
  rw [consE, if_neg (by omega)]
  split <;> rfl
theorem acc_c (l : List Dig) (m : Nat) (h1 : 1 ≤ m) (h : m ≤ l.length) (h2 : l.length ≤ 40) (old root : Dig) (ho : old = rootD (l.take m) ∨ (m < l.length ∧ NoPow m)) :
    checkC m l.length old root (consE l m).1 = (decide (rootD (l.take m) = old) && decide (rootD l = root)) := by
  have r := climbC_ok _ l m true old [] false (Nat.le_refl _) h1 h (fun _ => ho)
  rw [List.nil_append] at r
  have e : (consE l m).1 = consD l m true := by
    rw [consE, if_neg (by omega)]
    by_cases he : m = l.length
    · rw [if_pos (by omega)]
      subst he
      rw [consD_all]; rfl
    · rw [if_neg (by omega), Int.toNat_natCast]
  rw [checkC, if_neg (by omega), if_neg (by omega), e]
  simp only [Int.toNat_natCast, r, settled, Bool.not_false, List.length_nil, decide_true, Bool.and_true]
theorem acc_all (l : List Dig) (h1 : 1 ≤ l.length) (h2 : l.length ≤ 40) (old root : Dig) : checkC l.length l.length old root (consE l l.length).1 = decide (old = root) := by
  have e : (consE l l.length).1 = [] := by
    rw [consE, if_neg (by omega), if_pos (by omega)]
  rw [checkC, if_neg (by omega), if_neg (by omega), e, climbC_all, if_pos rfl]
  simp [settled]
theorem acc_0 (l : List Dig) (h2 : l.length ≤ 40) (old root : Dig) : checkC ((0 : Nat) : Int) l.length old root (consE l ((0 : Nat) : Int)).1 = decide (old = emptyD) := by
  have e : (consE l ((0 : Nat) : Int)).1 = [] := by
    rw [consE, if_neg (by omega), if_pos (by omega)]
  rw [checkC, if_neg (by omega), if_pos (by omega), e]
  simp [settled]
theorem acc1 (l : List Dig) (m : Nat) (h0 : 1 ≤ l.length) (h : m ≤ l.length) (h2 : l.length ≤ 40) : checkC m l.length (rootD (l.take m)) (rootD l) (consE l m).1 = true := by
  by_cases h1 : m = 0
  · subst h1
    rw [acc_0 l h2, List.take_zero, rootD_0 rfl, decide_eq_true rfl]
  · rw [acc_c l m (by omega) h h2 _ _ (.inl rfl), decide_eq_true rfl, decide_eq_true rfl]; rfl
theorem acc2 (l : List Dig) (m : Nat) (h0 : 1 ≤ l.length) (h : m ≤ l.length) (h2 : l.length ≤ 40) (other : Dig) (hp : powN m ≠ m ∨ m = l.length) : checkC m l.length other (rootD l) (consE l m).1 = decide (other = rootD (l.take m)) := by
  by_cases h1 : m = 0
  · subst h1
    rw [acc_0 l h2, List.take_zero, rootD_0 rfl]
  · by_cases he : m = l.length
    · subst he
      rw [acc_all l h0 h2, List.take_length]
    · rw [acc_c l m (by omega) h h2 _ _ (.inr ⟨by omega, powN_no (hp.resolve_right he)⟩), decide_eq_true (p := rootD l = rootD l) rfl, Bool.and_true]
      exact decide_eq_decide.2 ⟨Eq.symm, Eq.symm⟩
theorem acc3 (l : List Dig) (m : Nat) (h1 : m ≠ 0) (h : m ≤ l.length) (h2 : l.length ≤ 40) (other : Dig) : checkC m l.length (rootD (l.take m)) other (consE l m).1 = decide (other = rootD l) := by
  rw [acc_c l m (by omega) h h2 _ _ (.inl rfl), decide_eq_true (p := rootD (l.take m) = rootD (l.take m)) rfl, Bool.true_and]
  exact decide_eq_decide.2 ⟨Eq.symm, Eq.symm⟩
theorem asc_places (c n : Nat) : ascFrom n (-1) (places c n) = true := asc_from _ _ _ (places_asc c n) fun i hi => by have := places_mem c n i hi; omega
theorem manyE_ok (l : List Dig) (c : Nat) (h : 1 ≤ l.length) : manyE l (places c l.length) = (manyD l 0 (places c l.length), 0) := by
  rw [manyE, if_pos (asc_places c _), if_pos (by omega)]
theorem acc_m (l : List Dig) (c : Nat) (h : 1 ≤ l.length) (h2 : l.length ≤ 40) : checkM l.length (places c l.length) (pick l 0 (places c l.length)) (manyD l 0 (places c l.length)) (rootD l) = true := by
  have r := climbM_ok _ l 0 (places c l.length) [] [] false false (Nat.le_refl _) h (places_asc c _) fun i hi => by have := places_mem c _ i hi; omega
  rw [List.append_nil, List.append_nil] at r
  rw [checkM, if_neg (by rw [asc_places, pick_len]; simp; omega), if_neg (by omega)]
  simp only [Int.toNat_natCast, r, settled, decide_true, Bool.not_false, List.length_nil, Bool.and_self]
section
variable {s0 : St}
theorem C225 (n : Nat) (hn : 1000 ≤ n) (kk : AX → Env → St → Res) (res : Res) (ln : Int) (x18 : AV) (n18 : Nat) (c18 : List DV) (h18 : x18 = .list .none n18 c18) (S : Frm) (m : Nat) (h2 : m < 2 ^ 41) (nt : Nat) (hS : S.blks.length = 3) (hT : S.toks.length = nt)
    (hE : ∀ v0 v1 v2 v3 v4 v5 v6 v7 v8 v10 v12 v16 v17 v19 v20 v21 v22 v23 v24 v26 v27 v28 v29 v30 v31 v32 v33 v34 v35 v36 v37 v38 v39 v40 v41 v42 v43 v44 v45 v46 v47 v48 v49 v50 v51 v52 v53 v54 v55 v56 v57 v58 v59 v60 v61 v62 v63 v64 v65 v66 v67 v68 v69 v70 v71 v72 v73 v74 v75 v76 v77 v78 v79 v80 v81 v82 v83 v84 v85 v86 v87 v88 v89 v90 v91 v92 v93 v94 v95 v96 v97 v98 v99 v100 v101 v102 v103 v104 v105 v106 v107 v108 v109 v110 v111 v112 v113 v114 v115 v116 v117 v118 v119 v120 v121 v122 v123 v124 v125 v126 v127 v128 v129 v130 v131 v132 v133 v134 v135 v136 v137 v138 v139 v140 v141 v142 v143 v144 v145 v146 v147 v148 v149 v150 v151 v152 v153 v154 v155 v156 v157 v158 v159 v160 v161 v162 v163 v164 v165 v166 v167 v168 v169 v170, kk (.exit 2) ⟨v0 :: v1 :: v2 :: v3 :: v4 :: v5 :: v6 :: v7 :: v8 :: .ptr s0.length 0 0 :: v10 :: vi ln :: v12 :: vi m :: .ptr s0.length 1 0 :: .ptr s0.length 2 0 :: v16 :: v17 :: x18 :: v19 :: v20 :: v21 :: v22 :: v23 :: v24 :: vi (powN m : Nat) :: v26 :: v27 :: v28 :: v29 :: v30 :: v31 :: v32 :: v33 :: v34 :: v35 :: v36 :: v37 :: v38 :: v39 :: v40 :: v41 :: v42 :: v43 :: v44 :: v45 :: v46 :: v47 :: v48 :: v49 :: v50 :: v51 :: v52 :: v53 :: v54 :: v55 :: v56 :: v57 :: v58 :: v59 :: v60 :: v61 :: v62 :: v63 :: v64 :: v65 :: v66 :: v67 :: v68 :: v69 :: v70 :: v71 :: v72 :: v73 :: v74 :: v75 :: v76 :: v77 :: v78 :: v79 :: v80 :: v81 :: v82 :: v83 :: v84 :: v85 :: v86 :: v87 :: v88 :: v89 :: v90 :: v91 :: v92 :: v93 :: v94 :: v95 :: v96 :: v97 :: v98 :: v99 :: v100 :: v101 :: v102 :: v103 :: v104 :: v105 :: v106 :: v107 :: v108 :: v109 :: v110 :: v111 :: v112 :: v113 :: v114 :: v115 :: v116 :: v117 :: v118 :: v119 :: v120 :: v121 :: v122 :: v123 :: v124 :: v125 :: v126 :: v127 :: v128 :: v129 :: v130 :: v131 :: v132 :: v133 :: v134 :: v135 :: v136 :: v137 :: v138 :: v139 :: v140 :: v141 :: v142 :: v143 :: v144 :: v145 :: v146 :: v147 :: v148 :: v149 :: v150 :: v151 :: v152 :: v153 :: v154 :: v155 :: v156 :: v157 :: v158 :: v159 :: v160 :: v161 :: v162 :: v163 :: v164 :: v165 :: v166 :: v167 :: v168 :: v169 :: v170 :: [], []⟩ (S :: s0) = res) :
    lp5_22 (Y0 true) (acall (X0 true) n) n 3 nt kk n (.ptr s0.length 0 0) (vi ln) (vi m) (.ptr s0.length 1 0) (.ptr s0.length 2 0) x18 (vi 1) (S :: s0) = res := by
  by_cases h1 : m ≤ 1
  · have hp : powN m = 1 := by rw [powN, if_pos h1]
    rw [hp] at hE
    obtain ⟨n, rfl⟩ : ∃ k, n = k + 1 := ⟨n - 1, by omega⟩
    generalize acall (X0 true) (n + 1) = cf
    rw [D5L22]
    have h1' : ¬ (1 : Int) < m := by omega
    simp -implicitDefEqProofs (disch := first | omega | (simp only [rB]; done) | (simp only [rL] <;> omega) | fail) only [↓rP, rO, Int.reduceAdd, Int.reduceSub, Int.reduceMul, Int.reduceNeg, Int.reduceToNat, Int.reduceLT, Int.reduceLE, Int.reduceEq, Nat.reduceAdd, Nat.reduceMul, Nat.reduceSub, Nat.reduceLT, Nat.reduceLeDiff, Nat.reduceEqDiff, rT, rI, h1']
    exact hE _ _ _ _ _ _ _ _ _ _ _ _ _ _ _ _ _ _ _ _ _ _ _ _ _ _ _ _ _ _ _ _ _ _ _ _ _ _ _ _ _ _ _ _ _ _ _ _ _ _ _ _ _ _ _ _ _ _ _ _ _ _ _ _ _ _ _ _ _ _ _ _ _ _ _ _ _ _ _ _ _ _ _ _ _ _ _ _ _ _ _ _ _ _ _ _ _ _ _ _ _ _ _ _ _ _ _ _ _ _ _ _ _ _ _ _ _ _ _ _ _ _ _ _ _ _ _ _ _ _ _ _ _ _ _ _ _ _ _ _ _ _ _ _ _ _ _ _ _ _ _ _ _ _ _ _ _ _ _ _ _ _ _ _
  · have hp : powN m = 2 * splitN m := by rw [powN, if_neg h1]
    have hg := splitN_ge (n := m) (by omega)
    have hl := splitN_lt (n := m) (by omega)
    have he : 2 ^ (Nat.log2 (m - 1) + 1) = powN m := by rw [hp, Nat.pow_succ]; unfold splitN; omega
    have hlog : Nat.log2 (m - 1) < 41 := (Nat.log2_lt (by omega)).2 (by omega)
    have r := R225 (s0 := s0) n kk ln x18 n18 c18 h18 S m (by omega) h2 (Nat.log2 (m - 1) + 1) nt hS hT (by omega) (n - (Nat.log2 (m - 1) + 1))
    rw [show n - (Nat.log2 (m - 1) + 1) + (Nat.log2 (m - 1) + 1) = n by omega, he] at r
    refine r.trans ?_
    rw [show n - (Nat.log2 (m - 1) + 1) = (n - (Nat.log2 (m - 1) + 1) - 1) + 1 by omega, D5L22]
    have h1' : ¬ ((powN m : Nat) : Int) < m := by omega
    generalize powN m = pw at *
    simp -implicitDefEqProofs (disch := first | omega | (simp only [rB]; done) | (simp only [rL] <;> omega) | fail) only [↓rP, rO, Int.reduceAdd, Int.reduceSub, Int.reduceMul, Int.reduceNeg, Int.reduceToNat, Int.reduceLT, Int.reduceLE, Int.reduceEq, Nat.reduceAdd, Nat.reduceMul, Nat.reduceSub, Nat.reduceLT, Nat.reduceLeDiff, Nat.reduceEqDiff, rT, rI, h1']
    exact hE _ _ _ _ _ _ _ _ _ _ _ _ _ _ _ _ _ _ _ _ _ _ _ _ _ _ _ _ _ _ _ _ _ _ _ _ _ _ _ _ _ _ _ _ _ _ _ _ _ _ _ _ _ _ _ _ _ _ _ _ _ _ _ _ _ _ _ _ _ _ _ _ _ _ _ _ _ _ _ _ _ _ _ _ _ _ _ _ _ _ _ _ _ _ _ _ _ _ _ _ _ _ _ _ _ _ _ _ _ _ _ _ _ _ _ _ _ _ _ _ _ _ _ _ _ _ _ _ _ _ _ _ _ _ _ _ _ _ _ _ _ _ _ _ _ _ _ _ _ _ _ _ _ _ _ _ _ _ _ _ _ _ _ _
end
end Go.Proofs.YtnfdepafmmibaaaDoor

/-! The law MerkleProofsAreAccepted at the machine (2). Conditions: none. -/
set_option linter.unusedVariables false
set_option linter.unusedSimpArgs false
set_option maxRecDepth 20000
set_option maxHeartbeats 4000000
namespace Go.Proofs.YtnfdepafmmibaaaDoor
open Go
section
variable {s0 : St}
theorem X225 (n : Nat) (hn : 2 ^ 57 ≤ n) (l : List Dig) (h1 : 1 ≤ l.length) (h2 : l.length ≤ 40) (m : Nat) (hm : m ≤ l.length) (other : Dig) (K : Nat) (B : List Dig) (hB : consE l m = (B, 0)) (hBl : B.length ≤ 41)
    (v0 v1 v2 v3 v4 v5 v6 v7 v8 v10 v12 v16 v17 v19 v20 v21 v22 v23 v24 v26 v27 v28 v29 v30 v31 v32 v33 v34 v35 v36 v37 v38 v39 v40 v41 v42 v43 v44 v45 v46 v47 v48 v49 v50 v51 v52 v53 v54 v55 v56 v57 v58 v59 v60 v61 v62 v63 v64 v65 v66 v67 v68 v69 v70 v71 v72 v73 v74 v75 v76 v77 v78 v79 v80 v81 v82 v83 v84 v85 v86 v87 v88 v89 v90 v91 v92 v93 v94 v95 v96 v97 v98 v99 v100 v101 v102 v103 v104 v105 v106 v107 v108 v109 v110 v111 v112 v113 v114 v115 v116 v117 v118 v119 v120 v121 v122 v123 v124 v125 v126 v127 v128 v129 v130 v131 v132 v133 v134 v135 v136 v137 v138 v139 v140 v141 v142 v143 v144 v145 v146 v147 v148 v149 v150 v151 v152 v153 v154 v155 v156 v157 v158 v159 v160 v161 v162 v163 v164 v165 v166 v167 v168 v169 v170 : AV) :
    kont (cxOf (Y0 true)) (acall (X0 true) n) n (liveT 5) (sub (bodyOf Tryd.f5) []) [1, 1, 1, 1, 1, 1, 1, 1, 1, 1, 1, 1, 1, 1, 1, 0, 0] (aEnd (cxOf (Y0 true)) 5 (adef (X0 true) (acall (X0 true) n) n) Tryd.f5.results.toList) (.exit 2)
      ⟨v0 :: v1 :: v2 :: v3 :: v4 :: v5 :: v6 :: v7 :: v8 :: .ptr s0.length 0 0 :: v10 :: vi l.length :: v12 :: vi m :: .ptr s0.length 1 0 :: .ptr s0.length 2 0 :: v16 :: v17 :: .list .none B.length (dcells B) :: v19 :: v20 :: v21 :: v22 :: v23 :: v24 :: vi (powN m : Nat) :: v26 :: v27 :: v28 :: v29 :: v30 :: v31 :: v32 :: v33 :: v34 :: v35 :: v36 :: v37 :: v38 :: v39 :: v40 :: v41 :: v42 :: v43 :: v44 :: v45 :: v46 :: v47 :: v48 :: v49 :: v50 :: v51 :: v52 :: v53 :: v54 :: v55 :: v56 :: v57 :: v58 :: v59 :: v60 :: v61 :: v62 :: v63 :: v64 :: v65 :: v66 :: v67 :: v68 :: v69 :: v70 :: v71 :: v72 :: v73 :: v74 :: v75 :: v76 :: v77 :: v78 :: v79 :: v80 :: v81 :: v82 :: v83 :: v84 :: v85 :: v86 :: v87 :: v88 :: v89 :: v90 :: v91 :: v92 :: v93 :: v94 :: v95 :: v96 :: v97 :: v98 :: v99 :: v100 :: v101 :: v102 :: v103 :: v104 :: v105 :: v106 :: v107 :: v108 :: v109 :: v110 :: v111 :: v112 :: v113 :: v114 :: v115 :: v116 :: v117 :: v118 :: v119 :: v120 :: v121 :: v122 :: v123 :: v124 :: v125 :: v126 :: v127 :: v128 :: v129 :: v130 :: v131 :: v132 :: v133 :: v134 :: v135 :: v136 :: v137 :: v138 :: v139 :: v140 :: v141 :: v142 :: v143 :: v144 :: v145 :: v146 :: v147 :: v148 :: v149 :: v150 :: v151 :: v152 :: v153 :: v154 :: v155 :: v156 :: v157 :: v158 :: v159 :: v160 :: v161 :: v162 :: v163 :: v164 :: v165 :: v166 :: v167 :: v168 :: v169 :: v170 :: [], []⟩ (s13 other (rootD l) (rootD (l.take m)) K s0) = some (vb true, s0) := by
  have hsan := fun S => F9 (s0 := S) n (by omega)
  have hC := fun S a b => F26 (zb := true) S n (by omega) a b m l.length .none B (by omega) (.inl rfl)
  have hC2 := fun S => hC S other (rootD l)
  have hC3 := fun S => hC S (rootD (l.take m)) other
  clear hC
  have a2 := acc2 l m h1 hm h2 other
  have a3 := fun h => acc3 l m h hm h2 other
  rw [hB] at a2 a3
  simp only at a2 a3
  have hol : decide (other = rootD (l.take m)) = decide (other = rootD (l.take m)) := rfl
  generalize checkC m l.length other (rootD l) B = b2 at *
  rw [D5K22exit2]
  unfold s13
  by_cases hm0 : m = 0
  · have hp : powN m ≠ m := by rw [hm0]; decide
    have a2' := a2 (.inl hp)
    have hp' : decide (¬ ((powN m : Nat) : Int) = m) = true := decide_eq_true (by omega)
    have hmd : decide ((m : Int) = 0) = true := decide_eq_true (by omega)
    generalize powN m = pw at *
    generalize rootD (l.take m) = old at *
    subst a2'
    simp -implicitDefEqProofs (disch := first | omega | (simp only [rB]; done) | (simp only [rL] <;> omega) | fail) only [↓rP, rO, Int.reduceAdd, Int.reduceSub, Int.reduceMul, Int.reduceNeg, Int.reduceToNat, Int.reduceLT, Int.reduceLE, Int.reduceEq, Nat.reduceAdd, Nat.reduceMul, Nat.reduceSub, Nat.reduceLT, Nat.reduceLeDiff, Nat.reduceEqDiff, rT, rI, take_d, dlen, fold_d, hp', hmd, hC2, hC3, dig_eql, eqb_neq4, eqb_eql4, beq_self_eq_true, Bool.not_true, hsan]
  · have hmd : decide ((m : Int) = 0) = false := decide_eq_false (by omega)
    have a3' := a3 hm0
    by_cases hp : powN m = m
    · have hp' : decide (¬ ((powN m : Nat) : Int) = m) = false := decide_eq_false (by omega)
      by_cases hml : m = l.length
      · have a2' := a2 (.inr hml)
        have hmld : decide ((m : Int) = l.length) = true := decide_eq_true (by omega)
        generalize powN m = pw at *
        generalize rootD (l.take m) = old at *
        subst a2'
        simp -implicitDefEqProofs (disch := first | omega | (simp only [rB]; done) | (simp only [rL] <;> omega) | fail) only [↓rP, rO, Int.reduceAdd, Int.reduceSub, Int.reduceMul, Int.reduceNeg, Int.reduceToNat, Int.reduceLT, Int.reduceLE, Int.reduceEq, Nat.reduceAdd, Nat.reduceMul, Nat.reduceSub, Nat.reduceLT, Nat.reduceLeDiff, Nat.reduceEqDiff, rT, rI, take_d, dlen, fold_d, hp', hmld, hmd, hC2, hC3, a3', dig_eql, eqb_neq4, eqb_eql4, beq_self_eq_true, Bool.not_true, hsan]
      · have hmld : decide ((m : Int) = l.length) = false := decide_eq_false (by omega)
        generalize powN m = pw at *
        generalize rootD (l.take m) = old at *
        simp -implicitDefEqProofs (disch := first | omega | (simp only [rB]; done) | (simp only [rL] <;> omega) | fail) only [↓rP, rO, Int.reduceAdd, Int.reduceSub, Int.reduceMul, Int.reduceNeg, Int.reduceToNat, Int.reduceLT, Int.reduceLE, Int.reduceEq, Nat.reduceAdd, Nat.reduceMul, Nat.reduceSub, Nat.reduceLT, Nat.reduceLeDiff, Nat.reduceEqDiff, rT, rI, take_d, dlen, fold_d, hp', hmld, hmd, hC2, hC3, a3', dig_eql, eqb_neq4, eqb_eql4, beq_self_eq_true, Bool.not_true, hsan]
    · have a2' := a2 (.inl hp)
      have hp' : decide (¬ ((powN m : Nat) : Int) = m) = true := decide_eq_true (by omega)
      generalize powN m = pw at *
      generalize rootD (l.take m) = old at *
      subst a2'
      simp -implicitDefEqProofs (disch := first | omega | (simp only [rB]; done) | (simp only [rL] <;> omega) | fail) only [↓rP, rO, Int.reduceAdd, Int.reduceSub, Int.reduceMul, Int.reduceNeg, Int.reduceToNat, Int.reduceLT, Int.reduceLE, Int.reduceEq, Nat.reduceAdd, Nat.reduceMul, Nat.reduceSub, Nat.reduceLT, Nat.reduceLeDiff, Nat.reduceEqDiff, rT, rI, take_d, dlen, fold_d, hp', hmd, hC2, hC3, a3', dig_eql, eqb_neq4, eqb_eql4, beq_self_eq_true, Bool.not_true, hsan]
end
end Go.Proofs.YtnfdepafmmibaaaDoor

/-! The law MerkleProofsAreAccepted at the machine (3). Conditions: none. -/
set_option linter.unusedVariables false
set_option linter.unusedSimpArgs false
set_option maxRecDepth 20000
set_option maxHeartbeats 4000000
namespace Go.Proofs.YtnfdepafmmibaaaDoor
open Go
section
variable {s0 : St}
theorem X135 (n : Nat) (hn : 2 ^ 57 ≤ n) (l : List Dig) (h1 : 1 ≤ l.length) (h2 : l.length ≤ 40) (i m : Nat) (hi : i < l.length) (hm : m ≤ l.length) (other : Dig) (c : Nat) (B : List Dig) (hB : consE l m = (B, 0)) (hBl : B.length ≤ 41)
    (v1 v2 v3 v4 v5 v6 v7 v8 v10 v22 v23 v24 v25 v26 v27 v28 v29 v30 v31 v32 v33 v34 v35 v36 v37 v38 v39 v40 v41 v42 v43 v44 v45 v46 v47 v48 v49 v50 v51 v52 v53 v54 v55 v56 v57 v58 v59 v60 v61 v62 v63 v64 v65 v66 v67 v68 v69 v70 v71 v72 v73 v74 v75 v76 v77 v78 v79 v80 v81 v82 v83 v84 v85 v86 v87 v88 v89 v90 v91 v92 v93 v94 v95 v96 v97 v98 v99 v100 v101 v102 v103 v104 v105 v106 v107 v108 v109 v110 v111 v112 v113 v114 v115 v116 v117 v118 v119 v120 v121 v122 v123 v124 v125 v126 v127 v128 v129 v130 v131 v132 v133 v134 v135 v136 v137 v138 v139 v140 v141 v142 v143 v144 v145 v146 v147 v148 v149 v150 v151 v152 v153 v154 v155 v156 v157 v158 v159 v160 v161 v162 v163 v164 v165 v166 v167 v168 v169 v170 : AV) :
    (kont (cxOf (Y0 true)) (acall (X0 true) n) n (liveT 5) (sub (bodyOf Tryd.f5) []) [1, 1, 1, 1, 1, 1, 1, 1, 1, 1, 1, 0, 1, 0] (aEnd (cxOf (Y0 true)) 5 (adef (X0 true) (acall (X0 true) n) n) Tryd.f5.results.toList)) (.exit 0)
      ⟨.list .none l.length (dcells l) :: v1 :: v2 :: v3 :: v4 :: v5 :: v6 :: v7 :: v8 :: .ptr s0.length 0 0 :: v10 :: vi l.length :: vi i :: vi m :: .ptr s0.length 1 0 :: .ptr s0.length 2 0 :: .list .none (inclD l i).length (dcells (inclD l i)) :: vi 0 :: .list .none B.length (dcells B) :: vi 0 :: .list (.own s0.length 0) (places c l.length).length (icells (places c l.length)) :: .list (.own s0.length 1) (places c l.length).length (dcells (pick l 0 (places c l.length))) :: v22 :: v23 :: v24 :: v25 :: v26 :: v27 :: v28 :: v29 :: v30 :: v31 :: v32 :: v33 :: v34 :: v35 :: v36 :: v37 :: v38 :: v39 :: v40 :: v41 :: v42 :: v43 :: v44 :: v45 :: v46 :: v47 :: v48 :: v49 :: v50 :: v51 :: v52 :: v53 :: v54 :: v55 :: v56 :: v57 :: v58 :: v59 :: v60 :: v61 :: v62 :: v63 :: v64 :: v65 :: v66 :: v67 :: v68 :: v69 :: v70 :: v71 :: v72 :: v73 :: v74 :: v75 :: v76 :: v77 :: v78 :: v79 :: v80 :: v81 :: v82 :: v83 :: v84 :: v85 :: v86 :: v87 :: v88 :: v89 :: v90 :: v91 :: v92 :: v93 :: v94 :: v95 :: v96 :: v97 :: v98 :: v99 :: v100 :: v101 :: v102 :: v103 :: v104 :: v105 :: v106 :: v107 :: v108 :: v109 :: v110 :: v111 :: v112 :: v113 :: v114 :: v115 :: v116 :: v117 :: v118 :: v119 :: v120 :: v121 :: v122 :: v123 :: v124 :: v125 :: v126 :: v127 :: v128 :: v129 :: v130 :: v131 :: v132 :: v133 :: v134 :: v135 :: v136 :: v137 :: v138 :: v139 :: v140 :: v141 :: v142 :: v143 :: v144 :: v145 :: v146 :: v147 :: v148 :: v149 :: v150 :: v151 :: v152 :: v153 :: v154 :: v155 :: v156 :: v157 :: v158 :: v159 :: v160 :: v161 :: v162 :: v163 :: v164 :: v165 :: v166 :: v167 :: v168 :: v169 :: v170 :: [], []⟩ (s13 other (rootD l) (rootD (l.take m)) (places c l.length).length s0) = some (vb true, s0) := by
  have hpl := places_len c l.length
  have hM := fun S h => F21 (zb := true) S n (by omega) .none l (by omega) (.own s0.length 0) (places c l.length) (by omega) h
  simp only [manyE_ok l c h1] at hM
  have hM2 := fun (F : Frm) => hM (F :: s0) (Nat.lt_succ_self _)
  have hml := manyD_len _ l rfl h1 0 (places c l.length)
  have hcl := dcells_len l
  have a1 := acc_i l i hi h2
  have a2 := acc1 l m h1 hm h2
  have a3 := acc_m l c h1 h2
  rw [hB] at a2
  simp only at a2
  have hil := inclD_len _ l i rfl
  have hI := fun S => F25 (zb := true) S n (by omega) (l.getD i Dig.zero) (rootD l) i l.length .none (inclD l i) (by omega) (.inl rfl)
  have hC := fun S => F26 (zb := true) S n (by omega) (rootD (l.take m)) (rootD l) m l.length .none B (by omega) (.inl rfl)
  have hpk := pick_len l 0 (places c l.length)
  have hMc := fun F => F23 (zb := true) (F :: s0) n (by omega) l.length (.own s0.length 0) (places c l.length) (by omega) (Nat.lt_succ_self _) (.own s0.length 1) (pick l 0 (places c l.length)) (by omega) (.inr (.inr ⟨_, _, rfl, Nat.lt_succ_self _⟩)) .none (manyD l 0 (places c l.length)) (by omega) (.inl rfl) (rootD l)
  rw [a1] at hI
  rw [a2] at hC
  rw [a3, hpk] at hMc
  have hld := fun s => load_at (zb := true) l i s hi
  have hX := X225 (s0 := s0) n hn l h1 h2 m hm other (places c l.length).length B hB hBl
  generalize manyD l 0 (places c l.length) = MD at *
  generalize inclD l i = ID at *
  generalize pick l 0 (places c l.length) = PK at *
  generalize places c l.length = PL at *
  generalize hS : ({ blks := [{ ty := 31, tk := 0, cells := other.val.map vy }, { ty := 31, tk := 0, cells := (rootD l).val.map vy }, { ty := 31, tk := 0, cells := (rootD (l.take m)).val.map vy }], toks := [PL.length, PL.length] } : Frm) = SF
  have hC22 := fun kk hE => C225 (s0 := s0) n (by omega) kk (some (vb true, s0)) l.length (.list .none B.length (dcells B)) B.length (dcells B) rfl SF m (by omega) 2 (by subst hS; rfl) (by subst hS; rfl) hE
  subst hS
  unfold s13 at hX ⊢
  rw [D5K13exit0]
  simp -implicitDefEqProofs (disch := first | omega | (simp only [rB]; done) | (simp only [rL] <;> omega) | fail) only [↓rP, rO, Int.reduceAdd, Int.reduceSub, Int.reduceMul, Int.reduceNeg, Int.reduceToNat, Int.reduceLT, Int.reduceLE, Int.reduceEq, Nat.reduceAdd, Nat.reduceMul, Nat.reduceSub, Nat.reduceLT, Nat.reduceLeDiff, Nat.reduceEqDiff, rT, rI, hM2, ext0, ext1]
  rw [D5C13]
  simp -implicitDefEqProofs (disch := first | omega | (simp only [rB]; done) | (simp only [rL] <;> omega) | fail) only [↓rP, rO, Int.reduceAdd, Int.reduceSub, Int.reduceMul, Int.reduceNeg, Int.reduceToNat, Int.reduceLT, Int.reduceLE, Int.reduceEq, Nat.reduceAdd, Nat.reduceMul, Nat.reduceSub, Nat.reduceLT, Nat.reduceLeDiff, Nat.reduceEqDiff, rT, rI, hld, hI, hC, hMc, take_d, dlen, fold_d]
  rw [D5C14]
  simp -implicitDefEqProofs (disch := first | omega | (simp only [rB]; done) | (simp only [rL] <;> omega) | fail) only [↓rP, rO, Int.reduceAdd, Int.reduceSub, Int.reduceMul, Int.reduceNeg, Int.reduceToNat, Int.reduceLT, Int.reduceLE, Int.reduceEq, Nat.reduceAdd, Nat.reduceMul, Nat.reduceSub, Nat.reduceLT, Nat.reduceLeDiff, Nat.reduceEqDiff, rT, rI]
  refine hC22 _ ?_
  intros
  exact hX _ _ _ _ _ _ _ _ _ _ _ _ _ _ _ _ _ _ _ _ _ _ _ _ _ _ _ _ _ _ _ _ _ _ _ _ _ _ _ _ _ _ _ _ _ _ _ _ _ _ _ _ _ _ _ _ _ _ _ _ _ _ _ _ _ _ _ _ _ _ _ _ _ _ _ _ _ _ _ _ _ _ _ _ _ _ _ _ _ _ _ _ _ _ _ _ _ _ _ _ _ _ _ _ _ _ _ _ _ _ _ _ _ _ _ _ _ _ _ _ _ _ _ _ _ _ _ _ _ _ _ _ _ _ _ _ _ _ _ _ _ _ _ _ _ _ _ _ _ _ _ _ _ _ _ _ _ _ _ _ _ _ _ _
theorem F5 (n : Nat) (hn : 2 ^ 58 ≤ n) (l : List Dig) (x1 x2 x3 : Int) (h10 : 0 ≤ x1) (h11 : x1 < 256) (h20 : 0 ≤ x2) (h21 : x2 < 256) (h30 : 0 ≤ x3) (h31 : x3 < 18446744073709551616) (other : Dig) :
    acall (X0 true) n 5 [.list .none l.length (dcells l), .v (.int .u8 x1), .v (.int .u8 x2), .v (.int .u64 x3), vd other] s0 = some (vb true, s0) := by
  obtain ⟨n, rfl⟩ : ∃ k, n = k + 1 := ⟨n - 1, by omega⟩
  have hsan := fun S => F9 (s0 := S) n (by omega)
  have hfz : ∀ d k t (x : Dig), List.map (fit d k t) (x.val.map vy) = x.val.map vy := fun d k t x => fit_plain d k t (map_plain_y _)
  rw [E5, D5]
  by_cases h0 : l.length = 0
  · have h0' : (l.length : Int) = 0 := by omega
    simp -implicitDefEqProofs (disch := first | omega | (simp only [rB]; done) | (simp only [rL] <;> omega) | fail) only [↓rP, rO, Int.reduceAdd, Int.reduceSub, Int.reduceMul, Int.reduceNeg, Int.reduceToNat, Int.reduceLT, Int.reduceLE, Int.reduceEq, Nat.reduceAdd, Nat.reduceMul, Nat.reduceSub, Nat.reduceLT, Nat.reduceLeDiff, Nat.reduceEqDiff, rT, rI, box_vd, h0', hsan]
  by_cases h40 : 40 < l.length
  · simp -implicitDefEqProofs (disch := first | omega | (simp only [rB]; done) | (simp only [rL] <;> omega) | fail) only [↓rP, rO, Int.reduceAdd, Int.reduceSub, Int.reduceMul, Int.reduceNeg, Int.reduceToNat, Int.reduceLT, Int.reduceLE, Int.reduceEq, Nat.reduceAdd, Nat.reduceMul, Nat.reduceSub, Nat.reduceLT, Nat.reduceLeDiff, Nat.reduceEqDiff, rT, rI, box_vd, h0, h40, hsan]
  obtain ⟨c, rfl⟩ : ∃ c : Nat, x3 = c := ⟨x3.toNat, by omega⟩
  have w1 : IntKind.wrap .i64 x1 = x1 := wi_id (by omega) (by omega)
  have w2 : IntKind.wrap .i64 x2 = x2 := wi_id (by omega) (by omega)
  obtain ⟨i, hi⟩ : ∃ i : Nat, x1 % (l.length : Int) = i := ⟨(x1 % (l.length : Int)).toNat, by have := Int.emod_nonneg x1 (show (l.length : Int) ≠ 0 by omega); omega⟩
  obtain ⟨m, hm⟩ : ∃ m : Nat, x2 % ((l.length : Int) + 1) = m := ⟨(x2 % ((l.length : Int) + 1)).toNat, by have := Int.emod_nonneg x2 (show (l.length : Int) + 1 ≠ 0 by omega); omega⟩
  have hil : i < l.length := by have := Int.emod_lt_of_pos x1 (show (0 : Int) < l.length by omega); omega
  have hml : m ≤ l.length := by have := Int.emod_lt_of_pos x2 (show (0 : Int) < (l.length : Int) + 1 by omega); omega
  have hlm : (l.take m).length = m := by rw [List.length_take]; omega
  have hR1 : ∀ S, acall (X0 true) n 15 [.list .none l.length (dcells l)] S = some (vd (rootD l), S) := fun S => F15 (zb := true) l.length (by omega) n (by omega) .none l rfl S
  have hR2 : ∀ S, acall (X0 true) n 15 [.list .none m (dcells (l.take m))] S = some (vd (rootD (l.take m)), S) := fun S => F15 (zb := true) m (by omega) n (by omega) .none (l.take m) hlm S
  have htk : (dcells l).take (m * 16) = dcells (l.take m) := dcells_take l m
  have hcl := dcells_len l
  have hI := fun S => F10 (zb := true) S n (by omega) .none l (by omega) i (by omega) (by omega)
  simp only [inclE_ok l i hil] at hI
  obtain ⟨B, hB⟩ : ∃ B, consE l m = (B, 0) := ⟨_, consE_ok l m hml⟩
  have hBl : B.length ≤ 41 := by have := consE_len l m; rw [hB] at this; simp only at this; omega
  have hC := fun S => F11 (zb := true) S n (by omega) .none l (by omega) m (by omega) (by omega)
  simp only [hB] at hC
  have hR := R135 (s0 := s0) n (kont (cxOf (Y0 true)) (acall (X0 true) n) n (liveT 5) (sub (bodyOf Tryd.f5) []) [1, 1, 1, 1, 1, 1, 1, 1, 1, 1, 1, 0, 1, 0] (aEnd (cxOf (Y0 true)) 5 (adef (X0 true) (acall (X0 true) n) n) Tryd.f5.results.toList)) (some (vb true, s0)) l (by omega) c (by omega) i m other (rootD l) (rootD (l.take m)) (inclD l i).length B.length (dcells (inclD l i)) (dcells B) (.int .i64 0) (.int .i64 0) _ _ _ _ rfl rfl rfl rfl (places c l.length) rfl
    (X135 (s0 := s0) n (by omega) l (by omega) (by omega) i m hil hml other c B hB hBl) l.length 0 [] [] (n - 1 - l.length) (by omega) rfl rfl
  rw [show n - 1 - l.length + 1 + l.length = n by omega] at hR
  unfold s13 at hR
  have hd0 : dcells [] = [] := rfl
  have hi0 : icells [] = [] := rfl
  have z0 : ((0 : Nat) : Int) = 0 := rfl
  simp only [hd0, hi0, List.length_nil, z0] at hR
  generalize inclD l i = ID at *
  generalize rootD l = RL at *
  generalize rootD (l.take m) = RM at *
  simp -implicitDefEqProofs (disch := first | omega | (simp only [rB]; done) | (simp only [rL] <;> omega) | fail) only [↓rP, rO, Int.reduceAdd, Int.reduceSub, Int.reduceMul, Int.reduceNeg, Int.reduceToNat, Int.reduceLT, Int.reduceLE, Int.reduceEq, Nat.reduceAdd, Nat.reduceMul, Nat.reduceSub, Nat.reduceLT, Nat.reduceLeDiff, Nat.reduceEqDiff, rT, rI, box_vd, h0, h40, w1, w2, hi, hm, hR1, hR2, htk, hI, hC, ext0, ext1, new_z, take_d, dlen, fold_d, parts_vd, hfz, setAt_dd, hR]
end
end Go.Proofs.YtnfdepafmmibaaaDoor

