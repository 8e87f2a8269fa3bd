/- SHA-256's words: what the program's and the reference's functions on words return | SHA-256's message schedule: what the program's and the reference's functions return | SHA-256's compression: what the program's function returns | SHA-256 as a plain function of bytes, and how a stream holds a message | What the program's stream does: Add | What the program's stream returns in the end: Sum is SHA-256 | Lengths and texts as bytes: what the program's and the reference's functions return | Texts as bytes, and digests of parts: what the program's functions and the reference's Bytes return | SHA-256 in the reference: the padded message and the words of a block | SHA-256 in the reference: Sum | Digests in the reference: Of is SHA-256 of the parts. Conditions: none. -/
import Derived.Test.YtnfdepafmmibaaaDoorV6
/-! SHA-256's words: what the program's and the reference's functions on words return. Conditions: the amounts of rotations are between 1 and 31. -/

set_option linter.unusedVariables false
set_option linter.unusedSimpArgs false
set_option maxRecDepth 20000
namespace Go.Proofs.YtnfdepafmmibaaaDoor
open Go
variable {zb : Bool}

theorem map_fit_w (d k t : Nat) (l : List UInt32) : (l.map vw).map (fit d k t) = l.map vw := fit_plain d k t (plain_map (fun a : UInt32 => Value.int .u32 (a.toNat : Int)) l)
theorem map_fit_y (d k t : Nat) (l : List UInt8) : (l.map vy).map (fit d k t) = l.map vy := fit_plain d k t (plain_map (fun a : UInt8 => Value.int .u8 (a.toNat : Int)) l)
theorem map_bare_w (l : List UInt32) : (l.map vw).map bareCell = l.map vw := bare_plain (plain_map (fun a : UInt32 => Value.int .u32 (a.toNat : Int)) l)
theorem map_bare_y (l : List UInt8) : (l.map vy).map bareCell = l.map vy := bare_plain (plain_map (fun a : UInt8 => Value.int .u8 (a.toNat : Int)) l)
theorem map_plain_w (l : List UInt32) : Plain (l.map vw) := plain_map (fun a : UInt32 => Value.int .u32 (a.toNat : Int)) l
theorem map_plain_y (l : List UInt8) : Plain (l.map vy) := plain_map (fun a : UInt8 => Value.int .u8 (a.toNat : Int)) l
theorem F91 (n : Nat) (hn : 1 ≤ n) (x : UInt32) (i : Nat) (h0 : 0 < i) (h1 : i < 32) (s : St) :
    acall (X0 zb) n 91 [vw x, vi (-(i : Int))] s = some (vw (rotr x i), s) := by
  obtain ⟨n, rfl⟩ : ∃ m, n = m + 1 := ⟨n - 1, by omega⟩
  have e1 : IntKind.wrap .u64 (-(i : Int)) = ((18446744073709551616 - i : Nat) : Int) := by rw [wq_mod]; omega
  have e2 : (18446744073709551616 - i) &&& 31 = 32 - i := by
    rw [show (31 : Nat) = 2 ^ 5 - 1 by rfl, Nat.and_two_pow_sub_one_eq_mod]; omega
  rw [E91, D91]
  simp -implicitDefEqProofs only [↓rP, rO, Int.reduceAdd, Int.reduceSub, Int.reduceMul, Int.reduceNeg, Int.reduceToNat, Int.reduceLT, Int.reduceLE, Int.reduceEq, Nat.reduceAdd, Nat.reduceMul, Nat.reduceSub, Nat.reduceLT, Nat.reduceLeDiff, Nat.reduceEqDiff, rT, e1]
  rw [q_and _ _ _ _ (by omega) (by decide)]
  simp -implicitDefEqProofs only [↓rP, rO, Int.reduceAdd, Int.reduceSub, Int.reduceMul, Int.reduceNeg, Int.reduceToNat, Int.reduceLT, Int.reduceLE, Int.reduceEq, Nat.reduceAdd, Nat.reduceMul, Nat.reduceSub, Nat.reduceLT, Nat.reduceLeDiff, Nat.reduceEqDiff, e2]
  rw [w_shl _ _ _ _ _ (by omega), q_sub _ _ _ _ (by omega) (by omega)]
  simp -implicitDefEqProofs only [↓rP, rO, Int.reduceAdd, Int.reduceSub, Int.reduceMul, Int.reduceNeg, Int.reduceToNat, Int.reduceLT, Int.reduceLE, Int.reduceEq, Nat.reduceAdd, Nat.reduceMul, Nat.reduceSub, Nat.reduceLT, Nat.reduceLeDiff, Nat.reduceEqDiff]
  rw [w_shr _ _ _ _ _ (by omega)]
  simp -implicitDefEqProofs only [↓rP, rO, Int.reduceAdd, Int.reduceSub, Int.reduceMul, Int.reduceNeg, Int.reduceToNat, Int.reduceLT, Int.reduceLE, Int.reduceEq, Nat.reduceAdd, Nat.reduceMul, Nat.reduceSub, Nat.reduceLT, Nat.reduceLeDiff, Nat.reduceEqDiff, w_or]
  have : 32 - (32 - i) = i := by omega
  rw [this, UInt32.or_comm]
  rfl
theorem F85 (n : Nat) (hn : 2 ≤ n) (x : UInt32) (i j k : Nat) (h0 : 0 < i) (h1 : i < 32) (h2 : 0 < j) (h3 : j < 32) (h4 : 0 < k) (h5 : k < 32) (s : St) :
    acall (X0 zb) n 85 [vw x, vi i, vi j, vi k] s = some (vw (rotr x i ^^^ rotr x j ^^^ rotr x k), s) := by
  obtain ⟨n, rfl⟩ : ∃ m, n = m + 1 := ⟨n - 1, by omega⟩
  rw [E85, D85]
  have w : ∀ i : Nat, i < 32 → IntKind.wrap .i64 (0 - (i : Int)) = - (i : Int) := fun i hi => by rw [wi_id (by omega) (by omega)]; omega
  simp -implicitDefEqProofs (disch := omega) only [↓rP, rO, Int.reduceAdd, Int.reduceSub, Int.reduceMul, Int.reduceNeg, Int.reduceToNat, Int.reduceLT, Int.reduceLE, Int.reduceEq, Nat.reduceAdd, Nat.reduceMul, Nat.reduceSub, Nat.reduceLT, Nat.reduceLeDiff, Nat.reduceEqDiff, rT, u_neg, w i h1, w j h3, w k h5, F91, w_xor]
theorem F88 (n : Nat) (hn : 1 ≤ n) (x : UInt32) (i : Nat) (h0 : 0 < i) (h1 : i < 32) (s : St) :
    acall (X0 zb) n 88 [vw x, vi i] s = some (vw (rotr x i), s) := by
  obtain ⟨n, rfl⟩ : ∃ m, n = m + 1 := ⟨n - 1, by omega⟩
  rw [E88, D88]
  have e : (32 : Int) - (i : Int) = ((32 - i : Nat) : Int) := by omega
  simp -implicitDefEqProofs (disch := omega) only [↓rP, rO, Int.reduceAdd, Int.reduceSub, Int.reduceMul, Int.reduceNeg, Int.reduceToNat, Int.reduceLT, Int.reduceLE, Int.reduceEq, Nat.reduceAdd, Nat.reduceMul, Nat.reduceSub, Nat.reduceLT, Nat.reduceLeDiff, Nat.reduceEqDiff, rT, w_shr, b_sub, wi_id, e, w_shl, w_or]
  rfl
end Go.Proofs.YtnfdepafmmibaaaDoor

/-! SHA-256's message schedule: what the program's and the reference's functions return. Conditions: the block has 64 bytes. -/
set_option linter.unusedVariables false
set_option linter.unusedSimpArgs false
set_option maxRecDepth 20000
set_option maxHeartbeats 1000000
namespace Go.Proofs.YtnfdepafmmibaaaDoor
open Go
variable {zb : Bool}

theorem conv8_32 (b : UInt8) : IntKind.wrap .u32 (b.toNat : Int) = (b.toUInt32.toNat : Int) := by
  have h := b.toNat_lt
  rw [ww_mod, UInt8.toNat_toUInt32]; omega
theorem shl8_or (x y : UInt32) : (x ||| y) <<< 8 = x <<< 8 ||| y <<< 8 := by
  apply UInt32.toBitVec_inj.1
  ext i hi
  simp only [UInt32.toBitVec_or, UInt32.toBitVec_shiftLeft, BitVec.getElem_or]
  simp only [BitVec.shiftLeft_eq', BitVec.getElem_shiftLeft, BitVec.getLsbD_or, BitVec.getElem_or]
  rw [Bool.and_or_distrib_left]
theorem shl_8_8 (x : UInt32) : x <<< 8 <<< 8 = x <<< 16 := by
  apply UInt32.toNat_inj.1
  simp only [UInt32.toNat_shiftLeft, Nat.shiftLeft_eq]
  simp
  omega
theorem shl_16_8 (x : UInt32) : x <<< 16 <<< 8 = x <<< 24 := by
  apply UInt32.toNat_inj.1
  simp only [UInt32.toNat_shiftLeft, Nat.shiftLeft_eq]
  simp
  omega
/-- The words that are made, and zeros behind them. -/
def wcells (w : List UInt32) : List AV := w.map vw ++ List.replicate (64 - w.length) (vw 0)
theorem wcells_len (w : List UInt32) (h : w.length ≤ 64) : (wcells w).length = 64 := by simp [wcells]; omega
theorem wcells_get (w : List UInt32) (i : Nat) (h : i < w.length) : (wcells w)[i]? = some (vw (w.getD i 0)) := by
  rw [wcells, List.getElem?_append_left (by simpa using h)]
  simp [h]
theorem wcells_zero (w : List UInt32) (h : w.length < 64) : (wcells w)[w.length]? = some (vw 0) := by
  rw [wcells, List.getElem?_append_right (by simp), List.getElem?_replicate, if_pos (by simp; omega)]
theorem wcells_set (w : List UInt32) (h : w.length < 64) (x : UInt32) : (wcells w).set w.length (vw x) = wcells (w ++ [x]) := by
  rw [wcells, List.set_append_right _ _ (by simp)]
  simp only [List.length_map, Nat.sub_self]
  obtain ⟨r, hr⟩ : ∃ r, 64 - w.length = r + 1 := ⟨64 - w.length - 1, by omega⟩
  rw [hr, List.replicate_succ, List.set_cons_zero, wcells]
  have : 64 - (w ++ [x]).length = r := by simp; omega
  rw [this]
  simp

section
variable {s0 : St} {d k off c : Nat} {B : Blk} {bs : List UInt8}
abbrev sst (s0 : St) (R W : List AV) : St := { blks := [⟨123, 0, R⟩, ⟨123, 0, W⟩], toks := [] } :: s0
theorem R84a (n m : Nat) (hn : 10 ≤ n) (kk : AX → Env → St → Res) (hd : d < s0.length) (hb : getBlk s0 d k = some B) (hB : ∀ i, i < 64 → B.cells[off + i]? = some (vy (bs.getD i 0)))
    (hc : 64 ≤ c) (R : List AV) (t : Nat) (ht : t < 64) :
    lp84_3 (Y0 zb) (acall (X0 zb) n) n 2 0 kk (m + 1) (.msl d k off 64 c) (.ptr s0.length 0 0) (.ptr s0.length 1 0) (vi t) (sst s0 R (wcells (ws bs t)))
    = lp84_3 (Y0 zb) (acall (X0 zb) n) n 2 0 kk m (.msl d k off 64 c) (.ptr s0.length 0 0) (.ptr s0.length 1 0) (vi (t + 1)) (sst s0 R (wcells (ws bs (t + 1)))) := by
  obtain ⟨n, rfl⟩ : ∃ m, n = m + 10 := ⟨n - 10, by omega⟩
  have hw := ws_len bs t
  have hg : ∀ i, i < t → (wcells (ws bs t))[i]? = some (vw ((ws bs t).getD i 0)) := fun i hi => wcells_get _ _ (by omega)
  have hz := wcells_zero (ws bs t) (by omega)
  have hl := wcells_len (ws bs t) (by omega)
  have hs := wcells_set (ws bs t) (by omega)
  rw [hw] at hz hs
  by_cases h16 : t < 16
  · have i0 := hB (4 * t) (by omega)
    have i1 := hB (4 * t + 1) (by omega)
    rw [← Nat.add_assoc] at i1
    have i2 := hB (4 * t + 2) (by omega)
    rw [← Nat.add_assoc] at i2
    have i3 := hB (4 * t + 3) (by omega)
    rw [← Nat.add_assoc] at i3
    have e0 : off + (4 * (t : Int)).toNat = off + 4 * t := by omega
    have e1 : (4 * (t : Int) + 4).toNat - (4 * (t : Int)).toNat = 4 := by omega
    have hs2 : ∀ x y : UInt32, ((wcells (ws bs t)).set t (vw x)).set t (vw y) = (wcells (ws bs t)).set t (vw y) := fun x y => List.set_set _
    have hg2 : ∀ x : UInt32, ((wcells (ws bs t)).set t (vw x))[t]? = some (vw x) := fun x => by rw [List.getElem?_set_self (by omega)]
    rw [D84L3]
    simp -implicitDefEqProofs (disch := first | omega | (simp only [rB]; done) | (simp only [rL] <;> omega) | fail) only [↓rP, rO, Int.reduceAdd, Int.reduceSub, Int.reduceMul, Int.reduceNeg, Int.reduceToNat, Int.reduceLT, Int.reduceLE, Int.reduceEq, Nat.reduceAdd, Nat.reduceMul, Nat.reduceSub, Nat.reduceLT, Nat.reduceLeDiff, Nat.reduceEqDiff, rT, rI]
    rw [slice_msl U73 C5 (by decide) (bounds_of (nval_i (4 * (t : Int)) 0 (by omega)) (nval_i (4 * (t : Int) + 4) _ (by omega)) (nval_none _) ⟨by omega, by omega, by omega⟩ (fun e => by cases e))]
    simp -implicitDefEqProofs (disch := first | omega | (simp only [rB]; done) | (simp only [rL] <;> omega) | fail) only [↓rP, rO, Int.reduceAdd, Int.reduceSub, Int.reduceMul, Int.reduceNeg, Int.reduceToNat, Int.reduceLT, Int.reduceLE, Int.reduceEq, Nat.reduceAdd, Nat.reduceMul, Nat.reduceSub, Nat.reduceLT, Nat.reduceLeDiff, Nat.reduceEqDiff, rT, rI, e0, e1]
    rw [D84L7]
    simp -implicitDefEqProofs (disch := first | omega | (simp only [rB]; done) | (simp only [rL] <;> omega) | fail) only [↓rP, rO, Int.reduceAdd, Int.reduceSub, Int.reduceMul, Int.reduceNeg, Int.reduceToNat, Int.reduceLT, Int.reduceLE, Int.reduceEq, Nat.reduceAdd, Nat.reduceMul, Nat.reduceSub, Nat.reduceLT, Nat.reduceLeDiff, Nat.reduceEqDiff, rT, rI, hb, i0, hz, w_shl, w_or, conv8_32]
    rw [D84L7]
    simp -implicitDefEqProofs (disch := first | omega | (simp only [rB]; done) | (simp only [rL] <;> omega) | fail) only [↓rP, rO, Int.reduceAdd, Int.reduceSub, Int.reduceMul, Int.reduceNeg, Int.reduceToNat, Int.reduceLT, Int.reduceLE, Int.reduceEq, Nat.reduceAdd, Nat.reduceMul, Nat.reduceSub, Nat.reduceLT, Nat.reduceLeDiff, Nat.reduceEqDiff, rT, rI, hb, i1, hg2, hs2, w_shl, w_or, conv8_32, List.length_set]
    rw [D84L7]
    simp -implicitDefEqProofs (disch := first | omega | (simp only [rB]; done) | (simp only [rL] <;> omega) | fail) only [↓rP, rO, Int.reduceAdd, Int.reduceSub, Int.reduceMul, Int.reduceNeg, Int.reduceToNat, Int.reduceLT, Int.reduceLE, Int.reduceEq, Nat.reduceAdd, Nat.reduceMul, Nat.reduceSub, Nat.reduceLT, Nat.reduceLeDiff, Nat.reduceEqDiff, rT, rI, hb, i2, hg2, hs2, w_shl, w_or, conv8_32, List.length_set]
    rw [D84L7]
    simp -implicitDefEqProofs (disch := first | omega | (simp only [rB]; done) | (simp only [rL] <;> omega) | fail) only [↓rP, rO, Int.reduceAdd, Int.reduceSub, Int.reduceMul, Int.reduceNeg, Int.reduceToNat, Int.reduceLT, Int.reduceLE, Int.reduceEq, Nat.reduceAdd, Nat.reduceMul, Nat.reduceSub, Nat.reduceLT, Nat.reduceLeDiff, Nat.reduceEqDiff, rT, rI, hb, i3, hg2, hs2, w_shl, w_or, conv8_32, List.length_set]
    rw [D84L7]
    simp -implicitDefEqProofs (disch := first | omega | (simp only [rB]; done) | (simp only [rL] <;> omega) | fail) only [↓rP, rO, Int.reduceAdd, Int.reduceSub, Int.reduceMul, Int.reduceNeg, Int.reduceToNat, Int.reduceLT, Int.reduceLE, Int.reduceEq, Nat.reduceAdd, Nat.reduceMul, Nat.reduceSub, Nat.reduceLT, Nat.reduceLeDiff, Nat.reduceEqDiff, rT, rI]
    rw [D84K7exit2]
    simp -implicitDefEqProofs (disch := first | omega | (simp only [rB]; done) | (simp only [rL] <;> omega) | fail) only [↓rP, rO, Int.reduceAdd, Int.reduceSub, Int.reduceMul, Int.reduceNeg, Int.reduceToNat, Int.reduceLT, Int.reduceLE, Int.reduceEq, Nat.reduceAdd, Nat.reduceMul, Nat.reduceSub, Nat.reduceLT, Nat.reduceLeDiff, Nat.reduceEqDiff, rT, rI]
    have e : nextw bs (ws bs t) t = (((0 <<< UInt32.ofNat 8 ||| (bs.getD (4 * t) 0).toUInt32) <<< UInt32.ofNat 8 ||| (bs.getD (4 * t + 1) 0).toUInt32) <<< UInt32.ofNat 8 ||| (bs.getD (4 * t + 2) 0).toUInt32) <<< UInt32.ofNat 8 ||| (bs.getD (4 * t + 3) 0).toUInt32 := by
      rw [nextw, if_pos h16, be4]
      generalize (bs.getD (4 * t) 0).toUInt32 = a
      generalize (bs.getD (4 * t + 1) 0).toUInt32 = b
      generalize (bs.getD (4 * t + 2) 0).toUInt32 = c
      rw [show UInt32.ofNat 8 = 8 by rfl, show (0 : UInt32) <<< 8 = 0 by rfl, UInt32.zero_or]
      simp only [shl8_or, shl_8_8, shl_16_8]
    rw [hs, ws, e]
  · have t15 : ((t : Int) - 15).toNat = t - 15 := by omega
    have t2 : ((t : Int) - 2).toNat = t - 2 := by omega
    have t16 : ((t : Int) - 16).toNat = t - 16 := by omega
    have t7 : ((t : Int) - 7).toNat = t - 7 := by omega
    rw [D84L3]
    have r7 : ∀ x s, acall (X0 zb) (n + 10) 91 [vw x, vi (-7)] s = some (vw (rotr x 7), s) := fun x s => F91 (zb := zb) (n + 10) (by omega) x 7 (by decide) (by decide) s
    have r18 : ∀ x s, acall (X0 zb) (n + 10) 91 [vw x, vi (-18)] s = some (vw (rotr x 18), s) := fun x s => F91 (zb := zb) (n + 10) (by omega) x 18 (by decide) (by decide) s
    have r17 : ∀ x s, acall (X0 zb) (n + 10) 91 [vw x, vi (-17)] s = some (vw (rotr x 17), s) := fun x s => F91 (zb := zb) (n + 10) (by omega) x 17 (by decide) (by decide) s
    have r19 : ∀ x s, acall (X0 zb) (n + 10) 91 [vw x, vi (-19)] s = some (vw (rotr x 19), s) := fun x s => F91 (zb := zb) (n + 10) (by omega) x 19 (by decide) (by decide) s
    simp -implicitDefEqProofs (disch := first | omega | (simp only [rB]; done) | (simp only [rL] <;> omega) | fail) only [↓rP, rO, Int.reduceAdd, Int.reduceSub, Int.reduceMul, Int.reduceNeg, Int.reduceToNat, Int.reduceLT, Int.reduceLE, Int.reduceEq, Nat.reduceAdd, Nat.reduceMul, Nat.reduceSub, Nat.reduceLT, Nat.reduceLeDiff, Nat.reduceEqDiff, rT, rI, wi_id, if_pos, if_neg, t15, t2, t16, t7, hg, r7, r18, r17, r19, w_xor, w_shr, w_add, hs]
    have e : nextw bs (ws bs t) t = (ws bs t).getD (t - 16) 0 + sig0 ((ws bs t).getD (t - 15) 0) + (ws bs t).getD (t - 7) 0 + sig1 ((ws bs t).getD (t - 2) 0) := if_neg h16
    rw [ws, e, sig0, sig1]
theorem R84 (n : Nat) (hn : 10 ≤ n) (kk : AX → Env → St → Res) (hd : d < s0.length) (hb : getBlk s0 d k = some B) (hB : ∀ i, i < 64 → B.cells[off + i]? = some (vy (bs.getD i 0)))
    (hc : 64 ≤ c) (R : List AV) (t : Nat) : t ≤ 64 → ∀ m,
    lp84_3 (Y0 zb) (acall (X0 zb) n) n 2 0 kk (m + t) (.msl d k off 64 c) (.ptr s0.length 0 0) (.ptr s0.length 1 0) (vi 0) (sst s0 R (wcells []))
    = lp84_3 (Y0 zb) (acall (X0 zb) n) n 2 0 kk m (.msl d k off 64 c) (.ptr s0.length 0 0) (.ptr s0.length 1 0) (vi t) (sst s0 R (wcells (ws bs t))) := by
  induction t with
  | zero => intro _ m; rfl
  | succ t ih =>
    intro ht m
    rw [show m + (t + 1) = (m + 1) + t by omega, ih (by omega) (m + 1), R84a (zb := zb) n m hn kk hd hb hB hc R t (by omega)]
    rfl
theorem F84 (n : Nat) (hn : 100 ≤ n) (hb : getBlk s0 d k = some B) (hB : ∀ i, i < 64 → B.cells[off + i]? = some (vy (bs.getD i 0))) (hc : 64 ≤ c) :
    acall (X0 zb) n 84 [.msl d k off 64 c] s0 = some (.agg ((ws bs 64).map vw), s0) := by
  obtain ⟨n, rfl⟩ : ∃ m, n = m + 1 := ⟨n - 1, by omega⟩
  have hd := getBlk_lt hb
  have hw := ws_len bs 64
  rw [E84, D84]
  simp -implicitDefEqProofs (disch := first | omega | exact plain_rep _ _) only [↓rP, rO, Int.reduceAdd, Int.reduceSub, Int.reduceMul, Int.reduceNeg, Int.reduceToNat, Int.reduceLT, Int.reduceLE, Int.reduceEq, Nat.reduceAdd, Nat.reduceMul, Nat.reduceSub, Nat.reduceLT, Nat.reduceLeDiff, Nat.reduceEqDiff, rT, rI]
  have e : List.replicate 64 (AV.v (.int .u32 0)) = wcells [] := rfl
  rw [e]
  obtain ⟨m, rfl⟩ : ∃ m, n = (m + 1) + 64 := ⟨n - 65, by omega⟩
  rw [R84 (zb := zb) _ (by omega) _ hd hb hB hc _ 64 (by omega) (m + 1), D84L3]
  simp -implicitDefEqProofs (disch := first | omega | (simp only [rB]; done) | (simp only [rL] <;> omega) | fail) only [↓rP, rO, Int.reduceAdd, Int.reduceSub, Int.reduceMul, Int.reduceNeg, Int.reduceToNat, Int.reduceLT, Int.reduceLE, Int.reduceEq, Nat.reduceAdd, Nat.reduceMul, Nat.reduceSub, Nat.reduceLT, Nat.reduceLeDiff, Nat.reduceEqDiff, rT, rI]
  rw [D84K3exit0]
  have e2 : wcells (ws bs 64) = (ws bs 64).map vw := by simp [wcells, hw]
  have e3 : ((ws bs 64).map vw).length = 64 := by simp [hw]
  rw [e2]
  have e4 : setAt (wcells []) 0 ((ws bs 64).map vw) = (ws bs 64).map vw := setAt_all _ _ (by simp [hw, wcells])
  have e5 : (wcells []).length = 64 := by simp [wcells]
  have e6 : ((ws bs 64).map vw).take 64 = (ws bs 64).map vw := List.take_of_length_le (by omega)
  simp -implicitDefEqProofs (disch := first | omega | (simp only [rB]; done) | (simp only [rL] <;> omega) | fail) only [↓rP, rO, Int.reduceAdd, Int.reduceSub, Int.reduceMul, Int.reduceNeg, Int.reduceToNat, Int.reduceLT, Int.reduceLE, Int.reduceEq, Nat.reduceAdd, Nat.reduceMul, Nat.reduceSub, Nat.reduceLT, Nat.reduceLeDiff, Nat.reduceEqDiff, rT, rI, e3, e4, e5, e6, map_fit_w, map_bare_w]
end
end Go.Proofs.YtnfdepafmmibaaaDoor

/-! SHA-256's compression: what the program's function returns. Conditions: the block has 64 bytes. -/
set_option linter.unusedVariables false
set_option linter.unusedSimpArgs false
set_option maxRecDepth 20000
set_option maxHeartbeats 1000000
namespace Go.Proofs.YtnfdepafmmibaaaDoor
open Go
variable {zb : Bool}

theorem gl_hash : (Y0 zb).gl 2 = .lptr tab2 0 := rfl
theorem tab_hash : (tab2.take 64).map DV.av = kcon.map vw := by kernel_rfl
theorem tab_hash_len : tab2.length = 64 := by kernel_rfl
theorem kcon_get (t : Nat) (h : t < 64) : (kcon.map vw)[t]? = some (vw (kcon.getD t 0)) := by
  have e : kcon.length = 64 := by kernel_rfl
  rw [List.getElem?_map, List.getD_eq_getElem?_getD, List.getElem?_eq_getElem (by omega)]
  rfl
theorem ws_get (b : List UInt8) (t : Nat) (h : t < 64) : ((ws b 64).map vw)[t]? = some (vw ((ws b 64).getD t 0)) := by
  have e := ws_len b 64
  rw [List.getElem?_map, List.getD_eq_getElem?_getD, List.getElem?_eq_getElem (by omega)]
  rfl
abbrev cst (s0 : St) (S R : List AV) (b : List UInt8) (x : Hs) : St :=
  { blks := [⟨101, 0, S⟩, ⟨101, 0, R⟩, ⟨123, 0, (ws b 64).map vw⟩, ⟨125, 0, [vw x.a, vw x.b, vw x.c, vw x.d]⟩, ⟨125, 0, [vw x.e, vw x.f, vw x.g, vw x.h]⟩], toks := [] } :: s0
section
variable {s0 : St} {b : List UInt8}
theorem R76a (n m : Nat) (hn : 10 ≤ n) (kk : AX → Env → St → Res) (S R : List AV) (x : Hs) (t : Nat) (ht : t < 64) :
    lp76_4 (Y0 zb) (acall (X0 zb) n) n 5 0 kk (m + 1) (.ptr s0.length 0 0) (.ptr s0.length 1 0) (.ptr s0.length 2 0) (.ptr s0.length 3 0) (.ptr s0.length 4 0) (.agg (kcon.map vw)) (vi t) (cst s0 S R b x)
    = lp76_4 (Y0 zb) (acall (X0 zb) n) n 5 0 kk m (.ptr s0.length 0 0) (.ptr s0.length 1 0) (.ptr s0.length 2 0) (.ptr s0.length 3 0) (.ptr s0.length 4 0) (.agg (kcon.map vw)) (vi (t + 1)) (cst s0 S R b (rnd x (kcon.getD t 0) ((ws b 64).getD t 0))) := by
  have m1 : ∀ x s, acall (X0 zb) n 85 [vw x, vi 6, vi 11, vi 25] s = some (vw (rotr x 6 ^^^ rotr x 11 ^^^ rotr x 25), s) := fun x s => F85 (zb := zb) n (by omega) x 6 11 25 (by decide) (by decide) (by decide) (by decide) (by decide) (by decide) s
  have m2 : ∀ x s, acall (X0 zb) n 85 [vw x, vi 2, vi 13, vi 22] s = some (vw (rotr x 2 ^^^ rotr x 13 ^^^ rotr x 22), s) := fun x s => F85 (zb := zb) n (by omega) x 2 13 22 (by decide) (by decide) (by decide) (by decide) (by decide) (by decide) s
  have hk := kcon_get t ht
  have hw := ws_get b t ht
  rw [D76L4]
  simp -implicitDefEqProofs (disch := first | omega | (simp only [rB]; done) | (simp only [rL] <;> omega) | fail) only [↓rP, rO, Int.reduceAdd, Int.reduceSub, Int.reduceMul, Int.reduceNeg, Int.reduceToNat, Int.reduceLT, Int.reduceLE, Int.reduceEq, Nat.reduceAdd, Nat.reduceMul, Nat.reduceSub, Nat.reduceLT, Nat.reduceLeDiff, Nat.reduceEqDiff, rT, rI, m1, m2, w_xor, w_and, w_not, w_add, hk, hw, map_bare_w]
  simp only [rnd]
theorem R76 (n : Nat) (hn : 10 ≤ n) (kk : AX → Env → St → Res) (S R : List AV) (x : Hs) (t : Nat) : t ≤ 64 → ∀ m,
    lp76_4 (Y0 zb) (acall (X0 zb) n) n 5 0 kk (m + t) (.ptr s0.length 0 0) (.ptr s0.length 1 0) (.ptr s0.length 2 0) (.ptr s0.length 3 0) (.ptr s0.length 4 0) (.agg (kcon.map vw)) (vi 0) (cst s0 S R b x)
    = lp76_4 (Y0 zb) (acall (X0 zb) n) n 5 0 kk m (.ptr s0.length 0 0) (.ptr s0.length 1 0) (.ptr s0.length 2 0) (.ptr s0.length 3 0) (.ptr s0.length 4 0) (.agg (kcon.map vw)) (vi t) (cst s0 S R b (rnds b x t)) := by
  induction t with
  | zero => intro _ m; rfl
  | succ t ih =>
    intro ht m
    rw [show m + (t + 1) = (m + 1) + t by omega, ih (by omega) (m + 1), R76a (zb := zb) n m hn kk S R _ t (by omega)]
    rfl
theorem F76 (n : Nat) (hn : 200 ≤ n) {d k off c : Nat} {B : Blk} (x : Hs) (hb : getBlk s0 d k = some B) (hB : ∀ i, i < 64 → B.cells[off + i]? = some (vy (b.getD i 0))) (hc : 64 ≤ c) :
    acall (X0 zb) n 76 [.agg (x.list.map vw), .msl d k off 64 c] s0 = some (.agg ((comp x b).list.map vw), s0) := by
  obtain ⟨n, rfl⟩ : ∃ m, n = m + 1 := ⟨n - 1, by omega⟩
  have hd := getBlk_lt hb
  have hw := ws_len b 64
  have hg : ∀ (f : Frm), getBlk (f :: s0) d k = some B := fun f => by rw [getBlk_low _ _ _ _ (by omega), hb]
  have f1 : ∀ (f : Frm), acall (X0 zb) n 84 [.msl d k off 64 c] (f :: s0) = some (.agg ((ws b 64).map vw), f :: s0) := fun f => F84 (zb := zb) n (by omega) (hg f) hB hc
  have e4 : setAt (List.replicate 64 (AV.v (.int .u32 0))) 0 ((ws b 64).map vw) = (ws b 64).map vw := setAt_all _ _ (by simp [hw])
  have e3 : ((ws b 64).map vw).length = 64 := by simp [hw]
  rw [E76, D76]
  simp -implicitDefEqProofs (disch := first | omega | (simp only [rB]; done) | exact plain_rep _ _ | exact map_plain_w _ | exact map_plain_y _ | (apply plain_cons; repeat (first | exact plain_nil | apply plain_cons)) | (simp only [rL] <;> omega) | fail) only [↓rP, rO, Int.reduceAdd, Int.reduceSub, Int.reduceMul, Int.reduceNeg, Int.reduceToNat, Int.reduceLT, Int.reduceLE, Int.reduceEq, Nat.reduceAdd, Nat.reduceMul, Nat.reduceSub, Nat.reduceLT, Nat.reduceLeDiff, Nat.reduceEqDiff, rT, rI, aBox_agg, f1, e4, e3, map_fit_w, map_bare_w, Hs.list, List.length_replicate, gl_hash, tab_hash, tab_hash_len]
  obtain ⟨m, rfl⟩ : ∃ m, n = (m + 1) + 64 := ⟨n - 65, by omega⟩
  have r := R76 (zb := zb) (s0 := s0) (b := b) (m + 1 + 64) (by omega) (kont (cxOf (Y0 zb)) (acall (X0 zb) (m + 1 + 64)) (m + 1 + 64) (liveT 76) (sub (bodyOf Tryd.f76) []) [1, 1, 1, 0, 1, 0]
        (aEnd (cxOf (Y0 zb)) 76 (adef (X0 zb) (acall (X0 zb) (m + 1 + 64)) (m + 1 + 64)) Tryd.f76.results.toList)) [vw x.a, vw x.b, vw x.c, vw x.d, vw x.e, vw x.f, vw x.g, vw x.h] (List.replicate 8 (vw 0)) x 64 (by omega) (m + 1)
  refine r.trans ?_
  rw [D76L4]
  simp -implicitDefEqProofs (disch := first | omega | (simp only [rB]; done) | (simp only [rL] <;> omega) | fail) only [↓rP, rO, Int.reduceAdd, Int.reduceSub, Int.reduceMul, Int.reduceNeg, Int.reduceToNat, Int.reduceLT, Int.reduceLE, Int.reduceEq, Nat.reduceAdd, Nat.reduceMul, Nat.reduceSub, Nat.reduceLT, Nat.reduceLeDiff, Nat.reduceEqDiff, rT, rI]
  rw [D76K4exit0]
  simp -implicitDefEqProofs (disch := first | omega | (simp only [rB]; done) | (simp only [rL] <;> omega) | fail) only [↓rP, rO, Int.reduceAdd, Int.reduceSub, Int.reduceMul, Int.reduceNeg, Int.reduceToNat, Int.reduceLT, Int.reduceLE, Int.reduceEq, Nat.reduceAdd, Nat.reduceMul, Nat.reduceSub, Nat.reduceLT, Nat.reduceLeDiff, Nat.reduceEqDiff, rT, rI]
  generalize hx : rnds b x 64 = z
  rw [show m + 1 + 64 = m + 60 + 5 by omega]
  rw [D76L12]
  simp -implicitDefEqProofs (disch := first | omega | (simp only [rB]; done) | (simp only [rL] <;> omega) | fail) only [↓rP, rO, Int.reduceAdd, Int.reduceSub, Int.reduceMul, Int.reduceNeg, Int.reduceToNat, Int.reduceLT, Int.reduceLE, Int.reduceEq, Nat.reduceAdd, Nat.reduceMul, Nat.reduceSub, Nat.reduceLT, Nat.reduceLeDiff, Nat.reduceEqDiff, rT, rI, w_add]
  rw [D76L12]
  simp -implicitDefEqProofs (disch := first | omega | (simp only [rB]; done) | (simp only [rL] <;> omega) | fail) only [↓rP, rO, Int.reduceAdd, Int.reduceSub, Int.reduceMul, Int.reduceNeg, Int.reduceToNat, Int.reduceLT, Int.reduceLE, Int.reduceEq, Nat.reduceAdd, Nat.reduceMul, Nat.reduceSub, Nat.reduceLT, Nat.reduceLeDiff, Nat.reduceEqDiff, rT, rI, w_add]
  rw [D76L12]
  simp -implicitDefEqProofs (disch := first | omega | (simp only [rB]; done) | (simp only [rL] <;> omega) | fail) only [↓rP, rO, Int.reduceAdd, Int.reduceSub, Int.reduceMul, Int.reduceNeg, Int.reduceToNat, Int.reduceLT, Int.reduceLE, Int.reduceEq, Nat.reduceAdd, Nat.reduceMul, Nat.reduceSub, Nat.reduceLT, Nat.reduceLeDiff, Nat.reduceEqDiff, rT, rI, w_add]
  rw [D76L12]
  simp -implicitDefEqProofs (disch := first | omega | (simp only [rB]; done) | (simp only [rL] <;> omega) | fail) only [↓rP, rO, Int.reduceAdd, Int.reduceSub, Int.reduceMul, Int.reduceNeg, Int.reduceToNat, Int.reduceLT, Int.reduceLE, Int.reduceEq, Nat.reduceAdd, Nat.reduceMul, Nat.reduceSub, Nat.reduceLT, Nat.reduceLeDiff, Nat.reduceEqDiff, rT, rI, w_add]
  rw [D76L12]
  simp -implicitDefEqProofs (disch := first | omega | (simp only [rB]; done) | (simp only [rL] <;> omega) | fail) only [↓rP, rO, Int.reduceAdd, Int.reduceSub, Int.reduceMul, Int.reduceNeg, Int.reduceToNat, Int.reduceLT, Int.reduceLE, Int.reduceEq, Nat.reduceAdd, Nat.reduceMul, Nat.reduceSub, Nat.reduceLT, Nat.reduceLeDiff, Nat.reduceEqDiff, rT, rI, w_add]
  rw [D76K12exit2]
  have e8 : List.replicate 8 (vw 0) = [vw 0, vw 0, vw 0, vw 0, vw 0, vw 0, vw 0, vw 0] := rfl
  simp -implicitDefEqProofs (disch := first | omega | (simp only [rB]; done) | (simp only [rL] <;> omega) | fail) only [↓rP, rO, Int.reduceAdd, Int.reduceSub, Int.reduceMul, Int.reduceNeg, Int.reduceToNat, Int.reduceLT, Int.reduceLE, Int.reduceEq, Nat.reduceAdd, Nat.reduceMul, Nat.reduceSub, Nat.reduceLT, Nat.reduceLeDiff, Nat.reduceEqDiff, rT, rI, w_add, e8]
  simp only [comp, hx, Hs.add]
end
end Go.Proofs.YtnfdepafmmibaaaDoor

/-! SHA-256 as a plain function of bytes, and how a stream holds a message. Conditions: none. -/
set_option linter.unusedVariables false
set_option linter.unusedSimpArgs false
namespace Go.Proofs.YtnfdepafmmibaaaDoor
open Go

/-- A stream whose message is m. -/
structure SInv (m : List UInt8) (x : Hs) (blk : List UInt8) : Prop where
  len : blk.length = 64
  st : x = absorb (m.length / 64) iv m
  rest : blk.take (m.length % 64) = m.drop (64 * (m.length / 64))
def bput (blk : List UInt8) (at_ : Nat) (l : List UInt8) : List UInt8 := blk.take at_ ++ (l ++ blk.drop (at_ + l.length))
theorem bput_len (blk : List UInt8) (a : Nat) (l : List UInt8) (h : a + l.length ≤ blk.length) : (bput blk a l).length = blk.length := by
  simp [bput]; omega
theorem SInv.zero : SInv [] iv (List.replicate 64 0) := ⟨by simp, rfl, by simp⟩
theorem SInv.step {m : List UInt8} {x : Hs} {blk : List UInt8} (h : SInv m x blk) (l : List UInt8) (hl : m.length % 64 + l.length < 64) :
    SInv (m ++ l) x (bput blk (m.length % 64) l) := by
  have e1 : (m ++ l).length / 64 = m.length / 64 := by rw [List.length_append]; omega
  have e2 : (m ++ l).length % 64 = m.length % 64 + l.length := by rw [List.length_append]; omega
  refine ⟨by rw [bput_len _ _ _ (by rw [h.len]; omega), h.len], ?_, ?_⟩
  · rw [e1, absorb_app _ _ _ _ (by omega), ← h.st]
  · rw [e1, e2, bput]
    have h3 : (blk.take (m.length % 64)).length = m.length % 64 := by rw [List.length_take, h.len]; omega
    rw [List.take_append, h3, List.take_of_length_le (by rw [h3]; omega)]
    rw [show m.length % 64 + l.length - m.length % 64 = l.length by omega, List.take_append_of_le_length (Nat.le_refl _), List.take_of_length_le (Nat.le_refl _)]
    rw [h.rest, List.drop_append_of_le_length (by omega)]
theorem SInv.full {m : List UInt8} {x : Hs} {blk : List UInt8} (h : SInv m x blk) (l : List UInt8) (hl : m.length % 64 + l.length = 64) :
    SInv (m ++ l) (comp x (bput blk (m.length % 64) l)) (bput blk (m.length % 64) l) := by
  have e1 : (m ++ l).length / 64 = m.length / 64 + 1 := by rw [List.length_append]; omega
  have e2 : (m ++ l).length % 64 = 0 := by rw [List.length_append]; omega
  refine ⟨by rw [bput_len _ _ _ (by rw [h.len]; omega), h.len], ?_, ?_⟩
  · rw [e1, absorb, absorb_app _ _ _ _ (by omega), ← h.st]
    congr 1
    rw [bput, hl, List.drop_of_length_le (by rw [h.len]; omega), List.append_nil, h.rest, List.drop_append_of_le_length (by omega)]
    rw [List.take_of_length_le]
    rw [List.length_append, List.length_drop]; omega
  · rw [e1, e2, List.take_zero, List.drop_of_length_le]
    rw [List.length_append]; omega

/-! ### The cells of a stream -/
def strm (x : Hs) (blk : List UInt8) (n : Nat) : List AV := x.list.map vw ++ (blk.map vy ++ [vq n])
section
variable {x : Hs} {blk : List UInt8} {n : Nat}
theorem strm_len (h : blk.length = 64) : (strm x blk n).length = 73 := by simp [strm, Hs.list, h]
theorem strm_n (h : blk.length = 64) : (strm x blk n)[72]? = some (vq n) := by
  rw [strm, List.getElem?_append_right (by simp [Hs.list]), List.getElem?_append_right (by simp [Hs.list, h])]
  simp [Hs.list, h]
theorem strm_setn (h : blk.length = 64) (k : Nat) : (strm x blk n).set 72 (vq k) = strm x blk k := by
  rw [strm, List.set_append_right _ _ (by simp [Hs.list]), List.set_append_right _ _ (by simp [Hs.list, h])]
  simp [Hs.list, h, strm]
theorem strm_state : (strm x blk n).take 8 = x.list.map vw := by
  rw [strm, List.take_append_of_le_length (by simp [Hs.list]), List.take_of_length_le (by simp [Hs.list])]
theorem strm_setstate (h : blk.length = 64) (z : Hs) : setAt (strm x blk n) 0 (z.list.map vw) = strm z blk n := by
  rw [setAt_eqs _ _ _ (by rw [strm_len h]; simp [Hs.list])]
  have : (z.list.map vw).length = 8 := by simp [Hs.list]
  rw [this, strm, List.drop_append_of_le_length (by simp [Hs.list]), List.drop_of_length_le (by simp [Hs.list])]
  simp [strm]
theorem strm_byte (h : blk.length = 64) (i : Nat) (hi : i < 64) : (strm x blk n)[8 + i]? = some (vy (blk.getD i 0)) := by
  rw [strm, List.getElem?_append_right (by simp [Hs.list])]
  have : 8 + i - (x.list.map vw).length = i := by simp [Hs.list]
  rw [this, List.getElem?_append_left (by simp [h]; omega), List.getElem?_map, List.getD_eq_getElem?_getD, List.getElem?_eq_getElem (by omega)]
  rfl
theorem strm_put (h : blk.length = 64) (a : Nat) (l : List UInt8) (ha : a + l.length ≤ 64) : setAt (strm x blk n) (8 + a) (l.map vy) = strm x (bput blk a l) n := by
  rw [setAt_eqs _ _ _ (by rw [strm_len h]; simp; omega)]
  have e : (x.list.map vw).length = 8 := by simp [Hs.list]
  rw [strm, List.take_append, e, List.take_of_length_le (by omega), show 8 + a - 8 = a by omega, List.take_append_of_le_length (by simp [h]; omega)]
  rw [List.drop_append, e, List.drop_of_length_le (by omega), List.nil_append, List.length_map, show 8 + a + l.length - 8 = a + l.length by omega]
  rw [List.drop_append_of_le_length (by simp [h]; omega), strm, bput]
  simp only [List.map_append, List.map_take, List.map_drop, List.append_assoc]
theorem strm_plain : Plain (strm x blk n) := plain_append (map_plain_w _) (plain_append (map_plain_y _) (plain_cons _ plain_nil))
theorem strm_zero : (List.replicate 8 (AV.v (.int .u32 0)) ++ List.replicate 64 (AV.v (.int .u8 0)) ++ [AV.v (.int .u64 0)]) = strm ⟨0, 0, 0, 0, 0, 0, 0, 0⟩ (List.replicate 64 0) 0 := rfl
end
theorem copy_str {P : Program} {t e : TypeId} (hu : P.underlying t = some (.slice e)) (hc : P.cellsOf e = 1) (d k off n c : Nat) (l : List UInt8) (s : St) {b : Blk} (hb : getBlk s d k = some b) (hn : off + n ≤ b.cells.length) :
    aCopy P t (.msl d k off n c) (vs l) s = some (vi (min l.length n : Nat), setBlk s d k { b with cells := setAt b.cells off ((l.take n).map vy) }) := by
  unfold aCopy
  simp only [hu]
  have : srcCells P e (vs l) s = some (l.length, bcells l) := by simp only [srcCells, hc, if_true, ba_size, ba_data]
  simp only [this, hb, hc, Nat.mul_one]
  rw [if_pos ⟨by omega, by decide⟩]
  have e2 : ((bcells l).take (min l.length n)).map DV.av = (l.take n).map vy := by
    have : min l.length n = min n l.length := Nat.min_comm _ _
    rw [this, bcells, ← List.map_take, List.map_map, ← List.take_eq_take_min]
    rfl
  rw [e2]
end Go.Proofs.YtnfdepafmmibaaaDoor

/-! What the program's stream does: Add. Conditions: the message's length is below 2^60. -/
set_option linter.unusedVariables false
set_option linter.unusedSimpArgs false
set_option maxRecDepth 20000
set_option maxHeartbeats 1000000
namespace Go.Proofs.YtnfdepafmmibaaaDoor
open Go
variable {zb : Bool}
section
variable {s0 : St}
abbrev ast (s0 : St) (R : List AV) (x : Hs) (blk : List UInt8) (n : Nat) : St :=
  { blks := [⟨104, 0, strm x blk n⟩, ⟨104, 0, R⟩], toks := [] } :: s0
theorem R62 (n : Nat) (hn : 300 ≤ n) (kk : AX → Env → St → Res) (R : List AV) : ∀ (len : Nat) (t : List UInt8), t.length = len → ∀ (m : List UInt8) (x : Hs) (blk : List UInt8), SInv m x blk → m.length + t.length < 2 ^ 60 → ∀ r,
    ∃ r' x' blk', SInv (m ++ t) x' blk' ∧
    lp62_1 (Y0 zb) (acall (X0 zb) n) n 2 0 kk (r + len + 1) (vs t) (.ptr s0.length 0 0) (.ptr s0.length 1 0) (ast s0 R x blk m.length)
    = lp62_1 (Y0 zb) (acall (X0 zb) n) n 2 0 kk (r' + 1) (vs []) (.ptr s0.length 0 0) (.ptr s0.length 1 0) (ast s0 R x' blk' (m ++ t).length) := by
  intro len
  induction len using Nat.strongRecOn with
  | _ len ih =>
  intro t ht m x blk h hb r
  cases t with
  | nil => exact ⟨r + len, x, blk, by simpa using h, by simp⟩
  | cons a t =>
    have hlen := h.len
    have hne : ¬ (a :: t) = [] := by simp
    generalize hT : a :: t = T at *
    have hpos : 0 < T.length := by rw [← hT]; simp
    obtain ⟨len, rfl⟩ : ∃ l, len = l + 1 := ⟨len - 1, by omega⟩
    have e64 : (m.length : Int) % 64 = ((m.length % 64 : Nat) : Int) := by omega
    rw [show r + (len + 1) + 1 = (r + len + 1) + 1 by omega, D62L1]
    have hcp : ∀ l : List UInt8, l = T.take (64 - m.length % 64) → aCopy (Y0 zb).P 73 (.msl s0.length 0 (8 + m.length % 64) (64 - m.length % 64) (64 - m.length % 64)) (vs T) (ast s0 R x blk m.length)
        = some (vi (min T.length (64 - m.length % 64) : Nat), ast s0 R x (bput blk (m.length % 64) l) m.length) := by
      intro l hl
      have hll : l.length ≤ 64 - m.length % 64 := by rw [hl, List.length_take]; omega
      rw [copy_str U73 C5 _ _ _ _ _ _ _ (getBlk_top _ _ _) (by rw [strm_len hlen]; omega), ← hl, strm_put hlen _ _ (by omega), setBlk_top]
      rfl
    by_cases hl : m.length % 64 + T.length < 64
    · have e1 : min T.length (64 - m.length % 64) = T.length := by omega
      have e2 : T = T.take (64 - m.length % 64) := (List.take_of_length_le (by omega)).symm
      have hlen2 : (bput blk (m.length % 64) T).length = 64 := by rw [bput_len _ _ _ (by omega), hlen]
      have hd : T.drop T.length = [] := List.drop_length
      simp -implicitDefEqProofs (disch := first | omega | (simp only [rB]; done) | (simp only [rL] <;> omega) | fail) only [↓rP, rO, Int.reduceAdd, Int.reduceSub, Int.reduceMul, Int.reduceNeg, Int.reduceToNat, Int.reduceLT, Int.reduceLE, Int.reduceEq, Nat.reduceAdd, Nat.reduceMul, Nat.reduceSub, Nat.reduceLT, Nat.reduceLeDiff, Nat.reduceEqDiff, rT, rI, s_neq, strm_n hlen, strm_n hlen2, strm_len hlen2, strm_setn hlen2, q_rem, q_add, wi_id, wq_id, hcp T e2, e1, hd]
      refine ⟨r + len, x, bput blk (m.length % 64) T, h.step T hl, ?_⟩
      rw [List.length_append]
    · have e1 : min T.length (64 - m.length % 64) = 64 - m.length % 64 := by omega
      have ek : (T.take (64 - m.length % 64)).length = 64 - m.length % 64 := by rw [List.length_take]; omega
      have hlen2 : (bput blk (m.length % 64) (T.take (64 - m.length % 64))).length = 64 := by rw [bput_len _ _ _ (by omega), hlen]
      have hf := h.full (T.take (64 - m.length % 64)) (by omega)
      generalize hZ : T.take (64 - m.length % 64) = Z at *
      generalize hB : bput blk (m.length % 64) Z = blk2 at *
      have hc := F76 (zb := zb) (s0 := ast s0 R x blk2 (m.length + (64 - m.length % 64))) (b := blk2) (d := s0.length) (k := 0) (off := 8) (c := 64) n (by omega) x (getBlk_top _ _ _) (fun i hi => strm_byte hlen2 i hi) (Nat.le_refl _)
      have hst : ∀ N : Nat, setAt (strm x blk2 N) 0 ((comp x blk2).list.map vw) = strm (comp x blk2) blk2 N := fun N => strm_setstate hlen2 _
      have h8 : ((comp x blk2).list.map vw).length = 8 := by simp [Hs.list]
      have h88 : ∀ z : Hs, (List.map vw z.list).length = 8 := fun z => by simp [Hs.list]
      simp -implicitDefEqProofs (disch := first | omega | (simp only [rB]; done) | (simp only [rL] <;> omega) | fail) only [↓rP, rO, Int.reduceAdd, Int.reduceSub, Int.reduceMul, Int.reduceNeg, Int.reduceToNat, Int.reduceLT, Int.reduceLE, Int.reduceEq, Nat.reduceAdd, Nat.reduceMul, Nat.reduceSub, Nat.reduceLT, Nat.reduceLeDiff, Nat.reduceEqDiff, rT, rI, s_neq, strm_n hlen, strm_n hlen2, strm_len hlen2, strm_setn hlen2, q_rem, q_add, wi_id, wq_id, hcp Z rfl, hB, e1, strm_state, hc, map_fit_w, hst, h88]
      obtain ⟨r', x', blk', i1, i2⟩ := ih (len + 1 - (64 - m.length % 64)) (by omega) (T.drop (64 - m.length % 64)) (by rw [List.length_drop]; omega) (m ++ Z) (comp x blk2) blk2 hf (by rw [List.length_append, List.length_drop]; omega) (r + (64 - m.length % 64 - 1))
      have e5 : m ++ Z ++ T.drop (64 - m.length % 64) = m ++ T := by rw [← hZ, List.append_assoc, List.take_append_drop]
      rw [e5] at i1 i2
      refine ⟨r', x', blk', i1, ?_⟩
      rw [List.length_append, ek] at i2
      rw [show r + (64 - m.length % 64 - 1) + (len + 1 - (64 - m.length % 64)) + 1 = r + len + 1 by omega] at i2
      exact i2
theorem F62 (n : Nat) (t m : List UInt8) (x : Hs) (blk : List UInt8) (h : SInv m x blk) (hn : 400 + t.length ≤ n) (hb : m.length + t.length < 2 ^ 60) :
    ∃ x' blk', SInv (m ++ t) x' blk' ∧ acall (X0 zb) n 62 [.agg (strm x blk m.length), vs t] s0 = some (.agg (strm x' blk' (m ++ t).length), s0) := by
  obtain ⟨n, rfl⟩ : ∃ k, n = k + 1 := ⟨n - 1, by omega⟩
  obtain ⟨q, hq⟩ : ∃ q, n = q + t.length + 1 := ⟨n - t.length - 1, by omega⟩
  obtain ⟨r', x', blk', i1, i2⟩ := R62 (zb := zb) (s0 := s0) n (by omega) (kont (cxOf (Y0 zb)) (acall (X0 zb) n) n (liveT 62) (sub (bodyOf Tryd.f62) []) [1, 0, 0] (aEnd (cxOf (Y0 zb)) 62 (adef (X0 zb) (acall (X0 zb) n) n) Tryd.f62.results.toList))
    (strm ⟨0, 0, 0, 0, 0, 0, 0, 0⟩ (List.replicate 64 0) 0) t.length t rfl m x blk h hb q
  refine ⟨x', blk', i1, ?_⟩
  have hl := i1.len
  have f1 : ∀ (d k t N : Nat) (x : Hs) (blk : List UInt8), (strm x blk N).map (fit d k t) = strm x blk N := fun d k t N x blk => fit_plain d k t strm_plain
  have f2 : ∀ (N : Nat) (x : Hs) (blk : List UInt8), (strm x blk N).map bareCell = strm x blk N := fun N x blk => bare_plain strm_plain
  have z73 : (strm ⟨0, 0, 0, 0, 0, 0, 0, 0⟩ (List.replicate 64 0) 0).length = 73 := strm_len (by simp)
  have sa : setAt (strm ⟨0, 0, 0, 0, 0, 0, 0, 0⟩ (List.replicate 64 0) 0) 0 (strm x' blk' (m ++ t).length) = strm x' blk' (m ++ t).length := setAt_all _ _ (by rw [strm_len hl, z73])
  have tk : (strm x' blk' (m ++ t).length).take 73 = strm x' blk' (m ++ t).length := List.take_of_length_le (by rw [strm_len hl]; omega)
  rw [E62, D62]
  simp -implicitDefEqProofs (disch := first | omega | exact strm_plain) only [↓rP, rO, Int.reduceAdd, Int.reduceSub, Int.reduceMul, Int.reduceNeg, Int.reduceToNat, Int.reduceLT, Int.reduceLE, Int.reduceEq, Nat.reduceAdd, Nat.reduceMul, Nat.reduceSub, Nat.reduceLT, Nat.reduceLeDiff, Nat.reduceEqDiff, rT, rI, aBox_agg, strm_zero]
  rw [← hq] at i2
  refine i2.trans ?_
  rw [D62L1]
  simp -implicitDefEqProofs (disch := first | omega | (simp only [rB]; done) | (simp only [rL] <;> omega) | fail) only [↓rP, rO, Int.reduceAdd, Int.reduceSub, Int.reduceMul, Int.reduceNeg, Int.reduceToNat, Int.reduceLT, Int.reduceLE, Int.reduceEq, Nat.reduceAdd, Nat.reduceMul, Nat.reduceSub, Nat.reduceLT, Nat.reduceLeDiff, Nat.reduceEqDiff, rT, rI, s_neq]
  rw [D62K1exit0]
  simp -implicitDefEqProofs (disch := first | omega | (simp only [rB]; done) | (simp only [rL] <;> omega) | fail) only [↓rP, rO, Int.reduceAdd, Int.reduceSub, Int.reduceMul, Int.reduceNeg, Int.reduceToNat, Int.reduceLT, Int.reduceLE, Int.reduceEq, Nat.reduceAdd, Nat.reduceMul, Nat.reduceSub, Nat.reduceLT, Nat.reduceLeDiff, Nat.reduceEqDiff, rT, rI, strm_len hl, z73, sa, tk, f1, f2]
end
end Go.Proofs.YtnfdepafmmibaaaDoor

/-! What the program's stream returns in the end: Sum is SHA-256. Conditions: the message's length is below 2^59. -/
set_option linter.unusedVariables false
set_option linter.unusedSimpArgs false
set_option maxRecDepth 20000
set_option maxHeartbeats 1000000
namespace Go.Proofs.YtnfdepafmmibaaaDoor
open Go
variable {zb : Bool}
/-- A list that grows by the frame's first right. -/
inductive Gro (d : Nat) : Tag → List Nat → Nat → Prop
  | full (n : Nat) : Gro d .full [] n
  | own (n : Nat) : Gro d (.own d 0) [n] n
theorem bcells_snoc (l : List UInt8) (b : UInt8) : bcells l ++ [.v (.int .u8 (b.toNat : Int))] = bcells (l ++ [b]) := by simp [bcells]
theorem bcells_app (l m : List UInt8) : bcells l ++ bcells m = bcells (l ++ m) := by simp [bcells]
theorem conv_q8 (n : Nat) : IntKind.wrap .u8 (n : Int) = ((UInt8.ofNat n).toNat : Int) := by
  rw [w8_mod, UInt8.toNat_ofNat']; omega
theorem conv_w8 (x : UInt32) : IntKind.wrap .u8 (x.toNat : Int) = (x.toUInt8.toNat : Int) := by
  rw [w8_mod, UInt32.toNat_toUInt8]; omega
theorem padz_lt (n : Nat) : padz n < 64 := by unfold padz; omega
theorem padz_end (n : Nat) : (n + 1 + padz n) % 64 = 56 := by unfold padz; omega
theorem padz_min (n i : Nat) (h : i < padz n) : (n + 1 + i) % 64 ≠ 56 := by unfold padz at h; omega
def padp (i : Nat) : List UInt8 := 128 :: List.replicate i 0
theorem padp_len (i : Nat) : (padp i).length = i + 1 := by simp [padp]
theorem padp_snoc (i : Nat) : padp i ++ [0] = padp (i + 1) := by
  simp only [padp, List.cons_append, List.cons.injEq, true_and]
  rw [← List.replicate_succ']
section
variable {s0 : St} {x : Hs} {blk m : List UInt8}
abbrev pst (s0 : St) (S : List AV) (R : List AV) (T : List Nat) : St :=
  { blks := [⟨104, 0, S⟩, ⟨108, 0, R⟩], toks := T } :: s0
theorem R64a (n : Nat) (kk : AX → Env → St → Res) (R : List AV) (hl : blk.length = 64) (N : Nat) (hN : N < 2 ^ 59) (v3 : Value) (j : Nat) : ∀ (r i : Nat) (tag : Tag) (T : List Nat), Gro s0.length tag T (i + 1) → i + j = padz N →
    ∃ tag' T', Gro s0.length tag' T' (padz N + 1) ∧
    lp64_3 (Y0 zb) (acall (X0 zb) n) n 2 1000000 kk (r + j) (.ptr s0.length 0 0) (.ptr s0.length 1 0) (.v v3) (.list tag (i + 1) (bcells (padp i))) (pst s0 (strm x blk N) R T)
    = lp64_3 (Y0 zb) (acall (X0 zb) n) n 2 1000000 kk r (.ptr s0.length 0 0) (.ptr s0.length 1 0) (.v v3) (.list tag' (padz N + 1) (bcells (padp (padz N)))) (pst s0 (strm x blk N) R T') := by
  induction j with
  | zero =>
    intro r i tag T h hi
    obtain rfl : i = padz N := by omega
    exact ⟨tag, T, h, rfl⟩
  | succ j ih =>
    intro r i tag T h hi
    have hz := padz_lt N
    have hm := padz_min N i (by omega)
    have e1 : ¬ ((N : Int) + (i + 1 : Nat)) % 64 = 56 := by omega
    have hp : (bcells (padp i)).length = (i + 1) * 1 := by rw [bcells_len, padp_len]; omega
    have hk : i + 1 + 1 ≤ 1000000 := by omega
    obtain ⟨t2, T2, g1, g2⟩ := ih r (i + 1) (.own s0.length 0) [i + 1 + 1] (.own _) (by omega)
    refine ⟨t2, T2, g1, ?_⟩
    rw [show r + (j + 1) = (r + j) + 1 by omega, D64L3]
    cases h with
    | full =>
      simp -implicitDefEqProofs (disch := first | omega | (simp only [rB]; done) | (simp only [rL] <;> omega) | fail) only [↓rP, rO, Int.reduceAdd, Int.reduceSub, Int.reduceMul, Int.reduceNeg, Int.reduceToNat, Int.reduceLT, Int.reduceLE, Int.reduceEq, Nat.reduceAdd, Nat.reduceMul, Nat.reduceSub, Nat.reduceLT, Nat.reduceLeDiff, Nat.reduceEqDiff, rT, rI, strm_n hl, wi_id, wq_id, hp, bcells_snoc, padp_snoc]
      exact g2
    | own =>
      simp -implicitDefEqProofs (disch := first | omega | (simp only [rB]; done) | (simp only [rL] <;> omega) | fail) only [↓rP, rO, Int.reduceAdd, Int.reduceSub, Int.reduceMul, Int.reduceNeg, Int.reduceToNat, Int.reduceLT, Int.reduceLE, Int.reduceEq, Nat.reduceAdd, Nat.reduceMul, Nat.reduceSub, Nat.reduceLT, Nat.reduceLeDiff, Nat.reduceEqDiff, rT, rI, strm_n hl, wi_id, wq_id, hp, bcells_snoc, padp_snoc, grow_own]
      exact g2
theorem be8_succ (n i : Nat) (h : i < 8) : (be8 n).take (i + 1) = (be8 n).take i ++ [UInt8.ofNat (n / 2 ^ (56 - 8 * i))] := by
  rw [List.take_add_one]
  congr 1
  rw [be8, List.getElem?_map, List.getElem?_range h]
  rfl
theorem R64b (n : Nat) (kk : AX → Env → St → Res) (R S : List AV) (N : Nat) (hN : N < 2 ^ 59) (nt : Nat) (hnt : 1000000 ≤ nt) (p : List UInt8) (hp : p.length < 100) (j : Nat) : ∀ (r i : Nat) (tag : Tag) (T : List Nat), Gro s0.length tag T (p.length + i) → i + j = 8 →
    ∃ tag' T', Gro s0.length tag' T' (p.length + 8) ∧
    lp64_6 (Y0 zb) (acall (X0 zb) n) n 2 nt kk (r + j) (.ptr s0.length 0 0) (.ptr s0.length 1 0) (vq (8 * N)) (.list tag (p.length + i) (bcells (p ++ (be8 (8 * N)).take i))) (vi i) (pst s0 S R T)
    = lp64_6 (Y0 zb) (acall (X0 zb) n) n 2 nt kk r (.ptr s0.length 0 0) (.ptr s0.length 1 0) (vq (8 * N)) (.list tag' (p.length + 8) (bcells (p ++ be8 (8 * N)))) (vi 8) (pst s0 S R T') := by
  induction j with
  | zero =>
    intro r i tag T h hi
    obtain rfl : i = 8 := by omega
    refine ⟨tag, T, h, ?_⟩
    rw [List.take_of_length_le (by rw [be8_len]; omega)]
    rfl
  | succ j ih =>
    intro r i tag T h hi
    have hb : (bcells (p ++ (be8 (8 * N)).take i)).length = (p.length + i) * 1 := by rw [bcells_len, List.length_append, List.length_take, be8_len]; omega
    have e1 : (56 : Int) - 8 * (i : Int) = ((56 - 8 * i : Nat) : Int) := by omega
    obtain ⟨t2, T2, g1, g2⟩ := ih r (i + 1) (.own s0.length 0) [p.length + i + 1] (.own _) (by omega)
    refine ⟨t2, T2, g1, ?_⟩
    rw [be8_succ _ _ (by omega), ← List.append_assoc] at g2
    have htk : ∀ a : Nat, [a].take nt = [a] := fun a => List.take_of_length_le (by simp; omega)
    rw [show r + (j + 1) = (r + j) + 1 by omega, D64L6]
    cases h with
    | full =>
      simp -implicitDefEqProofs (disch := first | omega | (simp only [rB]; done) | (simp only [rL] <;> omega) | fail) only [↓rP, rO, Int.reduceAdd, Int.reduceSub, Int.reduceMul, Int.reduceNeg, Int.reduceToNat, Int.reduceLT, Int.reduceLE, Int.reduceEq, Nat.reduceAdd, Nat.reduceMul, Nat.reduceSub, Nat.reduceLT, Nat.reduceLeDiff, Nat.reduceEqDiff, rT, rI, q_shr, e1, conv_q8, bcells_snoc, htk]
      exact g2
    | own =>
      simp -implicitDefEqProofs (disch := first | omega | (simp only [rB]; done) | (simp only [rL] <;> omega) | fail) only [↓rP, rO, Int.reduceAdd, Int.reduceSub, Int.reduceMul, Int.reduceNeg, Int.reduceToNat, Int.reduceLT, Int.reduceLE, Int.reduceEq, Nat.reduceAdd, Nat.reduceMul, Nat.reduceSub, Nat.reduceLT, Nat.reduceLeDiff, Nat.reduceEqDiff, rT, rI, q_shr, e1, conv_q8, bcells_snoc, grow_own, htk]
      exact g2
def hb1 (z : Hs) (i : Nat) : UInt8 := (z.list.getD (i / 4) 0 >>> UInt32.ofNat (24 - 8 * (i % 4))).toUInt8
theorem hbytes_eq (z : Hs) : hbytes z = (List.range 32).map (hb1 z) := rfl
def hcells (z : Hs) (i : Nat) : List AV := ((List.range i).map (hb1 z)).map vy ++ List.replicate (32 - i) (vy 0)
theorem hcells_len (z : Hs) (i : Nat) (h : i ≤ 32) : (hcells z i).length = 32 := by simp [hcells]; omega
theorem hcells_set (z : Hs) (i : Nat) (h : i < 32) : (hcells z i).set i (vy (hb1 z i)) = hcells z (i + 1) := by
  rw [hcells, List.set_append_right _ _ (by simp)]
  simp only [List.length_map, List.length_range, Nat.sub_self]
  obtain ⟨r, hr⟩ : ∃ r, 32 - i = r + 1 := ⟨32 - i - 1, by omega⟩
  rw [hr, List.replicate_succ, List.set_cons_zero, hcells, List.range_succ]
  have : 32 - (i + 1) = r := by omega
  rw [this]
  simp
theorem strm_word (z : Hs) (i : Nat) (h : i < 8) (N : Nat) : (strm z blk N)[i]? = some (vw (z.list.getD i 0)) := by
  have hz : z.list.length = 8 := rfl
  rw [strm, List.getElem?_append_left (by rw [List.length_map, hz]; omega), List.getElem?_map, List.getD_eq_getElem?_getD, List.getElem?_eq_getElem (by omega)]
  rfl
abbrev qst (s0 : St) (S R Z : List AV) (T : List Nat) : St :=
  { blks := [⟨104, 0, S⟩, ⟨108, 0, R⟩, ⟨108, T.length, Z⟩], toks := T } :: s0
theorem R64c (n : Nat) (kk : AX → Env → St → Res) (R : List AV) (N : Nat) (z : Hs) (hl : blk.length = 64) (T : List Nat) (nt : Nat) (hnt : nt = T.length) (i : Nat) : i ≤ 32 → ∀ r,
    lp64_13 (Y0 zb) (acall (X0 zb) n) n 3 nt kk (r + i) (.ptr s0.length 0 0) (.ptr s0.length 1 0) (.ptr s0.length 2 0) (vi 0) (qst s0 (strm z blk N) R (hcells z 0) T)
    = lp64_13 (Y0 zb) (acall (X0 zb) n) n 3 nt kk r (.ptr s0.length 0 0) (.ptr s0.length 1 0) (.ptr s0.length 2 0) (vi i) (qst s0 (strm z blk N) R (hcells z i) T) := by
  induction i with
  | zero => intro _ r; rfl
  | succ i ih =>
    intro hi r
    have hw : (strm z blk N)[((i : Int) / 4).toNat]? = some (vw (z.list.getD (i / 4) 0)) := by
      rw [show ((i : Int) / 4).toNat = i / 4 by omega]; exact strm_word z _ (by omega) N
    have e1 : (24 : Int) - 8 * ((i : Int) % 4) = ((24 - 8 * (i % 4) : Nat) : Int) := by omega
    have hs : (hcells z i).set i (vy (z.list.getD (i / 4) 0 >>> UInt32.ofNat (24 - 8 * (i % 4))).toUInt8) = hcells z (i + 1) := hcells_set z i (by omega)
    have hcl := hcells_len z i (by omega)
    have hsl := strm_len (x := z) (n := N) hl
    have htk : T.take nt = T := List.take_of_length_le (by omega)
    have hnn : T.length ≤ nt := by omega
    rw [show r + (i + 1) = (r + 1) + i by omega, ih (by omega) (r + 1), D64L13]
    simp -implicitDefEqProofs (disch := first | omega | (simp only [rB]; done) | (simp only [rL] <;> omega) | fail) only [↓rP, rO, Int.reduceAdd, Int.reduceSub, Int.reduceMul, Int.reduceNeg, Int.reduceToNat, Int.reduceLT, Int.reduceLE, Int.reduceEq, Nat.reduceAdd, Nat.reduceMul, Nat.reduceSub, Nat.reduceLT, Nat.reduceLeDiff, Nat.reduceEqDiff, rT, rI, hw, e1, w_shr, conv_w8, htk, hnn, hcl, hs]
    rfl
theorem F61 (n : Nat) (hn : 1 ≤ n) : acall (X0 zb) n 61 [] s0 = some (.agg (strm iv (List.replicate 64 0) 0), s0) := by
  obtain ⟨n, rfl⟩ : ∃ k, n = k + 1 := ⟨n - 1, by omega⟩
  rw [E61, D61]
  have z73 : (strm ⟨0, 0, 0, 0, 0, 0, 0, 0⟩ (List.replicate 64 0) 0).length = 73 := strm_len (by simp)
  have b1 : aBuild (Y0 zb).P 101 [(0, (vw 1779033703)), (1, (vw 3144134277)), (2, (vw 1013904242)), (3, (vw 2773480762)), (4, (vw 1359893119)), (5, (vw 2600822924)), (6, (vw 528734635)), (7, (vw 1541459225))] = some (.agg (iv.list.map vw)) := by kernel_rfl
  have b2 : aBuild (Y0 zb).P 104 [(0, .agg (iv.list.map vw))] = some (.agg (strm iv (List.replicate 64 0) 0)) := by kernel_rfl
  have f1 : ∀ (d k t N : Nat) (x : Hs) (blk : List UInt8), (strm x blk N).map (fit d k t) = strm x blk N := fun d k t N x blk => fit_plain d k t strm_plain
  have f2 : ∀ (N : Nat) (x : Hs) (blk : List UInt8), (strm x blk N).map bareCell = strm x blk N := fun N x blk => bare_plain strm_plain
  have l73 : (strm iv (List.replicate 64 0) 0).length = 73 := strm_len (by simp)
  have sa : setAt (strm ⟨0, 0, 0, 0, 0, 0, 0, 0⟩ (List.replicate 64 0) 0) 0 (strm iv (List.replicate 64 0) 0) = strm iv (List.replicate 64 0) 0 := setAt_all _ _ (by rw [l73, z73])
  have tk : (strm iv (List.replicate 64 0) 0).take 73 = strm iv (List.replicate 64 0) 0 := List.take_of_length_le (by rw [l73]; omega)
  simp -implicitDefEqProofs (disch := first | omega | exact strm_plain) only [↓rP, rO, Int.reduceAdd, Int.reduceSub, Int.reduceMul, Int.reduceNeg, Int.reduceToNat, Int.reduceLT, Int.reduceLE, Int.reduceEq, Nat.reduceAdd, Nat.reduceMul, Nat.reduceSub, Nat.reduceLT, Nat.reduceLeDiff, Nat.reduceEqDiff, rT, rI, strm_zero, b1, b2, l73, z73, sa, f1, f2, tk]
theorem F64 (n : Nat) (h : SInv m x blk) (hn : 1000 ≤ n) (hb : m.length < 2 ^ 59) : acall (X0 zb) n 64 [.agg (strm x blk m.length)] s0 = some (.agg ((sha m).map vy), s0) := by
  obtain ⟨n, rfl⟩ : ∃ k, n = k + 1 := ⟨n - 1, by omega⟩
  have hl := h.len
  have hz := padz_lt m.length
  have f1 : ∀ (d k t N : Nat) (x : Hs) (blk : List UInt8), (strm x blk N).map (fit d k t) = strm x blk N := fun d k t N x blk => fit_plain d k t strm_plain
  have z32 : List.replicate 32 (AV.v (.int .u8 0)) = hcells iv 0 := rfl
  rw [E64, D64]
  simp -implicitDefEqProofs (disch := first | omega | exact strm_plain | exact plain_rep _ _) only [↓rP, rO, Int.reduceAdd, Int.reduceSub, Int.reduceMul, Int.reduceNeg, Int.reduceToNat, Int.reduceLT, Int.reduceLE, Int.reduceEq, Nat.reduceAdd, Nat.reduceMul, Nat.reduceSub, Nat.reduceLT, Nat.reduceLeDiff, Nat.reduceEqDiff, rT, rI, aBox_agg, strm_n hl, q_mul]
  -- the zeros
  obtain ⟨t1, T1, g1, e1⟩ := R64a (zb := zb) (s0 := s0) (x := x) (blk := blk) n (kont (cxOf (Y0 zb)) (acall (X0 zb) n) n (liveT 64) (sub (bodyOf Tryd.f64) []) [1, 1, 1, 0, 0] (aEnd (cxOf (Y0 zb)) 64 (adef (X0 zb) (acall (X0 zb) n) n) Tryd.f64.results.toList))
    (List.replicate 32 (AV.v (.int .u8 0))) hl m.length hb (.int .u64 ((8 * m.length : Nat) : Int)) (padz m.length) (n - padz m.length) 0 .full [] (.full _) (by omega)
  rw [show n - padz m.length + padz m.length = n by omega] at e1
  refine e1.trans ?_
  obtain ⟨q, hq⟩ : ∃ q, n - padz m.length = q + 1 := ⟨n - padz m.length - 1, by omega⟩
  have ez : ((m.length : Int) + ((padz m.length + 1 : Nat) : Int)) % 64 = 56 := by
    have := padz_end m.length
    omega
  rw [hq, D64L3]
  simp -implicitDefEqProofs (disch := first | omega | (simp only [rB]; done) | (simp only [rL] <;> omega) | fail) only [↓rP, rO, Int.reduceAdd, Int.reduceSub, Int.reduceMul, Int.reduceNeg, Int.reduceToNat, Int.reduceLT, Int.reduceLE, Int.reduceEq, Nat.reduceAdd, Nat.reduceMul, Nat.reduceSub, Nat.reduceLT, Nat.reduceLeDiff, Nat.reduceEqDiff, rT, rI, strm_n hl, wi_id, wq_id]
  rw [D64K3exit0]
  simp -implicitDefEqProofs (disch := first | omega | (simp only [rB]; done) | (simp only [rL] <;> omega) | fail) only [↓rP, rO, Int.reduceAdd, Int.reduceSub, Int.reduceMul, Int.reduceNeg, Int.reduceToNat, Int.reduceLT, Int.reduceLE, Int.reduceEq, Nat.reduceAdd, Nat.reduceMul, Nat.reduceSub, Nat.reduceLT, Nat.reduceLeDiff, Nat.reduceEqDiff, rT, rI]
  have hp := padp_len (padz m.length)
  have e0 : padp (padz m.length) ++ (be8 (8 * m.length)).take 0 = padp (padz m.length) := by simp
  obtain ⟨t2, T2, g2, e2⟩ := R64b (zb := zb) (s0 := s0) n (kont (cxOf (Y0 zb)) (acall (X0 zb) n) n (liveT 64) (sub (bodyOf Tryd.f64) []) [1, 1, 1, 1, 0, 1, 0] (aEnd (cxOf (Y0 zb)) 64 (adef (X0 zb) (acall (X0 zb) n) n) Tryd.f64.results.toList))
    (List.replicate 32 (AV.v (.int .u8 0))) (strm x blk m.length) m.length hb (T1.length + 1000000) (by omega) (padp (padz m.length)) (by omega) 8 (n - 8) 0 t1 T1 (by rw [hp]; exact g1) (by omega)
  rw [show n - 8 + 8 = n by omega, e0, hp] at e2
  refine e2.trans ?_
  rw [show n - 8 = (n - 9) + 1 by omega, D64L6]
  simp -implicitDefEqProofs (disch := first | omega | (simp only [rB]; done) | (simp only [rL] <;> omega) | fail) only [↓rP, rO, Int.reduceAdd, Int.reduceSub, Int.reduceMul, Int.reduceNeg, Int.reduceToNat, Int.reduceLT, Int.reduceLE, Int.reduceEq, Nat.reduceAdd, Nat.reduceMul, Nat.reduceSub, Nat.reduceLT, Nat.reduceLeDiff, Nat.reduceEqDiff, rT, rI]
  rw [D64K6exit2]
  have ep : padp (padz m.length) ++ be8 (8 * m.length) = pad m.length := by simp [padp, pad]
  have hpl := pad_len m.length
  have h73 := strm_len (x := x) (n := m.length) hl
  have tk : (strm x blk m.length).take 73 = strm x blk m.length := List.take_of_length_le (by omega)
  obtain ⟨x2, blk2, i1, i2⟩ := F62 (zb := zb) (s0 := pst s0 (strm x blk m.length) (List.replicate 32 (AV.v (.int .u8 0))) T2) n (pad m.length) m x blk h (by omega) (by omega)
  have hl2 := i1.len
  have h732 := strm_len (x := x2) (n := (m ++ pad m.length).length) hl2
  have sa : setAt (strm x blk m.length) 0 (strm x2 blk2 (m ++ pad m.length).length) = strm x2 blk2 (m ++ pad m.length).length := setAt_all _ _ (by rw [h73, h732])
  simp -implicitDefEqProofs (disch := first | omega | exact plain_rep _ _ | (simp only [List.length_append, be8_len]; omega)) only [↓rP, rO, Int.reduceAdd, Int.reduceSub, Int.reduceMul, Int.reduceNeg, Int.reduceToNat, Int.reduceLT, Int.reduceLE, Int.reduceEq, Nat.reduceAdd, Nat.reduceMul, Nat.reduceSub, Nat.reduceLT, Nat.reduceLeDiff, Nat.reduceEqDiff, rT, rI, ep, tk, h73, h732, i2, f1, sa]
  obtain ⟨q2, hq2⟩ : ∃ q2, n = (q2 + 1) + 32 := ⟨n - 33, by omega⟩
  have e3 := R64c (zb := zb) (s0 := s0) (blk := blk2) n (kont (cxOf (Y0 zb)) (acall (X0 zb) n) n (liveT 64) (sub (bodyOf Tryd.f64) []) [1, 1, 1, 1, 1, 1, 1, 0, 1, 0] (aEnd (cxOf (Y0 zb)) 64 (adef (X0 zb) (acall (X0 zb) n) n) Tryd.f64.results.toList))
    (List.replicate 32 (AV.v (.int .u8 0))) (m ++ pad m.length).length x2 hl2 T2 T2.length rfl 32 (by omega) (q2 + 1)
  rw [← hq2] at e3
  refine e3.trans ?_
  rw [D64L13]
  simp -implicitDefEqProofs (disch := first | omega | (simp only [rB]; done) | (simp only [rL] <;> omega) | fail) only [↓rP, rO, Int.reduceAdd, Int.reduceSub, Int.reduceMul, Int.reduceNeg, Int.reduceToNat, Int.reduceLT, Int.reduceLE, Int.reduceEq, Nat.reduceAdd, Nat.reduceMul, Nat.reduceSub, Nat.reduceLT, Nat.reduceLeDiff, Nat.reduceEqDiff, rT, rI]
  rw [D64K13exit4]
  have hz : hcells x2 32 = (sha m).map vy := by
    have : sha m = hbytes x2 := by rw [sha, ← i1.st]
    rw [this, hbytes_eq, hcells]
    simp
  have hs32 : ((sha m).map vy).length = 32 := by rw [List.length_map, sha_len]
  have sa2 : setAt (List.replicate 32 (AV.v (.int .u8 0))) 0 ((sha m).map vy) = (sha m).map vy := setAt_all _ _ (by rw [hs32]; simp)
  have tk2 : ((sha m).map vy).take 32 = (sha m).map vy := List.take_of_length_le (by omega)
  simp -implicitDefEqProofs (disch := first | omega | (simp only [rB]; done) | (simp only [rL] <;> omega) | fail) only [↓rP, rO, Int.reduceAdd, Int.reduceSub, Int.reduceMul, Int.reduceNeg, Int.reduceToNat, Int.reduceLT, Int.reduceLE, Int.reduceEq, Nat.reduceAdd, Nat.reduceMul, Nat.reduceSub, Nat.reduceLT, Nat.reduceLeDiff, Nat.reduceEqDiff, rT, rI, hz, hs32, sa2, tk2, map_fit_y, map_bare_y, List.length_replicate]
end
end Go.Proofs.YtnfdepafmmibaaaDoor

/-! Lengths and texts as bytes: what the program's and the reference's functions return. Conditions: the lengths are below 2^40. -/
set_option linter.unusedVariables false
set_option linter.unusedSimpArgs false
set_option maxRecDepth 20000
set_option maxHeartbeats 1000000
namespace Go.Proofs.YtnfdepafmmibaaaDoor
open Go
variable {zb : Bool}
theorem q_shl (P : Program) (t : TypeId) (k2 : IntKind) (a n : Nat) (h : n ≤ 64) (h2 : a * 2 ^ n < 18446744073709551616) : aBin P .shl t (vq a) (.v (.int k2 (n : Int))) = some (vq (a * 2 ^ n)) := by
  rw [b_shl _ _ _ _ _ _ (by omega)]
  have e : min ((n : Int).toNat) (IntKind.bits .u64) = n := by simp [IntKind.bits]; omega
  have e2 : (a : Int) * 2 ^ n = ((a * 2 ^ n : Nat) : Int) := by simp
  rw [e, e2, wq_id (by omega) (by omega)]
theorem i_shr (P : Program) (t : TypeId) (k2 : IntKind) (a : Int) (n : Nat) (h : n ≤ 64) (ha : 0 ≤ a) : aBin P .shr t (vi a) (.v (.int k2 (n : Int))) = some (vi (a / 2 ^ n)) := by
  rw [b_shr _ _ _ _ _ _ (by omega)]
  have e : min ((n : Int).toNat) (IntKind.bits .i64) = n := by simp [IntKind.bits]; omega
  rw [e, Int.fdiv_eq_ediv_of_nonneg _ (by exact Int.le_of_lt (Int.pow_pos (by decide)))]
theorem q_xor0 (P : Program) (t : TypeId) (a : Nat) (ha : a < 18446744073709551616) : aBin P .xor t (vq a) (vq 0) = some (vq a) := by
  have e : (BitVec.ofInt (IntKind.bits .u64) (a : Int) ^^^ BitVec.ofInt (IntKind.bits .u64) ((0 : Nat) : Int)).toNat = a := by
    show (BitVec.ofInt 64 (a : Int) ^^^ BitVec.ofInt 64 ((0 : Nat) : Int)).toNat = a
    rw [BitVec.toNat_xor, ofIntq a ha, ofIntq 0 (by decide), Nat.xor_zero]
  rw [b_xor, e, wq_id (by omega) (by omega)]
theorem y_or (P : Program) (t : TypeId) (a b : UInt8) : aBin P .or t (vy a) (vy b) = some (vy (a ||| b)) := by
  rw [b_or]; simp only [IntKind.bits]; rw [ofInt8, ofInt8, back8]; rfl
theorem y_add (P : Program) (t : TypeId) (a b : UInt8) : aBin P .add t (vy a) (vy b) = some (vy (a + b)) := by
  rw [b_add, w8_mod]
  have : (a + b).toNat = (a.toNat + b.toNat) % 256 := UInt8.toNat_add a b
  show _ = some (AV.v (.int .u8 (((a + b).toNat : Nat) : Int)))
  rw [this]; rfl
theorem or128 (z : Nat) : UInt8.ofNat z ||| 128 = UInt8.ofNat (z % 128 + 128) := by
  apply UInt8.toNat_inj.1
  rw [UInt8.toNat_or, UInt8.toNat_ofNat', UInt8.toNat_ofNat']
  have key : ∀ x, x < 256 → (x ||| 128) = (x % 128 + 128) % 256 := by decide
  have h := key (z % 256) (by omega)
  have h2 : z % 256 % 128 = z % 128 := by omega
  rw [h2] at h
  exact h
theorem add128 (z : Nat) : UInt8.ofNat (z % 128) + 128 = UInt8.ofNat (z % 128 + 128) := by
  apply UInt8.toNat_inj.1
  rw [UInt8.toNat_add, UInt8.toNat_ofNat', UInt8.toNat_ofNat']
  simp
theorem uvar_lt (z : Nat) (h : z < 128) : uvar z = [UInt8.ofNat z] := by rw [uvar, if_pos h]
theorem uvar_ge (z : Nat) (h : ¬ z < 128) : uvar z = UInt8.ofNat (z % 128 + 128) :: uvar (z / 128) := by rw [uvar, if_neg h]
/-- The bytes ahead of the last one. -/
def uhead (z : Nat) : List UInt8 := if z < 128 then [] else UInt8.ofNat (z % 128 + 128) :: uhead (z / 128)
termination_by z
def ulast (z : Nat) : Nat := if z < 128 then z else ulast (z / 128)
termination_by z
theorem uhead_lt (z : Nat) (h : z < 128) : uhead z = [] := by rw [uhead, if_pos h]
theorem uhead_ge (z : Nat) (h : ¬ z < 128) : uhead z = UInt8.ofNat (z % 128 + 128) :: uhead (z / 128) := by rw [uhead, if_neg h]
theorem ulast_lt (z : Nat) (h : z < 128) : ulast z = z := by rw [ulast, if_pos h]
theorem ulast_ge (z : Nat) (h : ¬ z < 128) : ulast z = ulast (z / 128) := by rw [ulast, if_neg h]
theorem ulast_small (z : Nat) : ulast z < 128 := by
  induction z using Nat.strongRecOn with
  | _ z ih =>
    by_cases h : z < 128
    · rw [ulast_lt z h]; exact h
    · rw [ulast_ge z h]; exact ih _ (by omega)
theorem uvar_eq (z : Nat) : uvar z = uhead z ++ [UInt8.ofNat (ulast z)] := by
  induction z using Nat.strongRecOn with
  | _ z ih =>
    by_cases h : z < 128
    · rw [uvar_lt z h, uhead_lt z h, ulast_lt z h]; rfl
    · rw [uvar_ge z h, uhead_ge z h, ulast_ge z h, ih _ (by omega)]; rfl
theorem uhead_len (k : Nat) : ∀ z, z < 128 ^ k * 128 → (uhead z).length ≤ k := by
  induction k with
  | zero => intro z h; rw [uhead_lt z (by omega)]; simp
  | succ k ih =>
    intro z h
    by_cases hz : z < 128
    · rw [uhead_lt z hz]; simp
    · rw [uhead_ge z hz, List.length_cons]
      have := ih (z / 128) (by rw [Nat.pow_succ] at h; omega)
      omega
section
variable {s0 : St}
/-- The loop of Int: the program's and the reference's. -/
theorem R77 (n : Nat) (kk : AX → Env → St → Res) (z : Nat) : z < 2 ^ 60 → ∀ (p : List UInt8) (j : Nat) (r : Nat), (uhead z).length ≤ j → p.length + j < 100 →
    lp77_3 (Y0 zb) (acall (X0 zb) n) n 0 2 kk (r + j) (vq z) (.list (.own s0.length 1) p.length (bcells p)) ({ blks := [], toks := [0, p.length] } :: s0)
    = lp77_3 (Y0 zb) (acall (X0 zb) n) n 0 2 kk (r + (j - (uhead z).length)) (vq (ulast z)) (.list (.own s0.length 1) (p ++ uhead z).length (bcells (p ++ uhead z))) ({ blks := [], toks := [0, (p ++ uhead z).length] } :: s0) := by
  induction z using Nat.strongRecOn with
  | _ z ih =>
    intro hz p j r hj hp
    by_cases h : z < 128
    · rw [uhead_lt z h, ulast_lt z h]; simp
    · rw [uhead_ge z h] at hj ⊢
      rw [ulast_ge z h]
      rw [List.length_cons] at hj
      obtain ⟨j, rfl⟩ : ∃ i, j = i + 1 := ⟨j - 1, by omega⟩
      have hb := bcells_len p
      have i1 := ih (z / 128) (by omega) (by omega) (p ++ [UInt8.ofNat (z % 128 + 128)]) j r (by omega) (by rw [List.length_append, List.length_singleton]; omega)
      simp only [List.append_assoc, List.singleton_append, List.length_append, List.length_singleton] at i1
      rw [show r + (j + 1) = (r + j) + 1 by omega, D77L3]
      simp -implicitDefEqProofs (disch := first | omega | (simp only [rB]; done) | (simp only [rL] <;> omega) | fail) only [↓rP, rO, Int.reduceAdd, Int.reduceSub, Int.reduceMul, Int.reduceNeg, Int.reduceToNat, Int.reduceLT, Int.reduceLE, Int.reduceEq, Nat.reduceAdd, Nat.reduceMul, Nat.reduceSub, Nat.reduceLT, Nat.reduceLeDiff, Nat.reduceEqDiff, rT, rI, conv_q8, y_or, or128, q_shr, bcells_snoc]
      have e7 : z / 2 ^ 7 = z / 128 := rfl
      rw [e7]
      refine i1.trans ?_
      simp only [List.length_append, List.length_cons]
      rw [show j + 1 - ((uhead (z / 128)).length + 1) = j - (uhead (z / 128)).length by omega]
theorem wireInt_nat (k : Nat) : wireInt k = uvar (k * 2) := by
  rw [wireInt, if_neg (by omega)]; simp
theorem F77 (n : Nat) (hn : 200 ≤ n) (k : Nat) (hk : k < 2 ^ 50) (f1 : Frm) (r : St) :
    acall (X0 zb) n 77 [vi k] (f1 :: r) = some (.list (.own r.length f1.toks.length) (wireInt k).length (bcells (wireInt k)), { f1 with toks := f1.toks ++ [(wireInt k).length] } :: r) := by
  obtain ⟨n, rfl⟩ : ∃ m, n = m + 1 := ⟨n - 1, by omega⟩
  have hl := uhead_len 9 (k * 2) (by omega)
  have hs := ulast_small (k * 2)
  rw [E77, D77, wireInt_nat, uvar_eq]
  have e63 : (k : Int) / 2 ^ 63 = ((0 : Nat) : Int) := by omega
  have e1 : k * 2 ^ 1 = k * 2 := rfl
  simp -implicitDefEqProofs (disch := first | omega | (simp only [rB]; done) | (simp only [rL] <;> omega) | fail) only [↓rP, rO, Int.reduceAdd, Int.reduceSub, Int.reduceMul, Int.reduceNeg, Int.reduceToNat, Int.reduceLT, Int.reduceLE, Int.reduceEq, Nat.reduceAdd, Nat.reduceMul, Nat.reduceSub, Nat.reduceLT, Nat.reduceLeDiff, Nat.reduceEqDiff, rT, rI, wq_id, q_shl, i_shr, e63, e1, q_xor0]
  generalize hkk : kont _ _ _ _ _ _ _ = kk
  have e := R77 (zb := zb) (s0 := f1 :: r) n kk (k * 2) (by omega) [] 9 (n - 9) hl (by simp)
  rw [show n - 9 + 9 = n by omega] at e
  simp only [List.nil_append] at e
  refine e.trans ?_
  subst hkk
  obtain ⟨q, hq⟩ : ∃ q, n - 9 + (9 - (uhead (k * 2)).length) = q + 1 := ⟨n - 9 + (9 - (uhead (k * 2)).length) - 1, by omega⟩
  rw [hq, D77L3]
  simp -implicitDefEqProofs (disch := first | omega | (simp only [rB]; done) | (simp only [rL] <;> omega) | fail) only [↓rP, rO, Int.reduceAdd, Int.reduceSub, Int.reduceMul, Int.reduceNeg, Int.reduceToNat, Int.reduceLT, Int.reduceLE, Int.reduceEq, Nat.reduceAdd, Nat.reduceMul, Nat.reduceSub, Nat.reduceLT, Nat.reduceLeDiff, Nat.reduceEqDiff, rT, rI]
  rw [D77K3exit0]
  have hb := bcells_len (uhead (k * 2))
  simp -implicitDefEqProofs (disch := first | omega | (simp only [rB]; done) | (simp only [rL] <;> omega) | fail) only [↓rP, rO, Int.reduceAdd, Int.reduceSub, Int.reduceMul, Int.reduceNeg, Int.reduceToNat, Int.reduceLT, Int.reduceLE, Int.reduceEq, Nat.reduceAdd, Nat.reduceMul, Nat.reduceSub, Nat.reduceLT, Nat.reduceLeDiff, Nat.reduceEqDiff, rT, rI, conv_q8, bcells_snoc, leaveG_own]
  simp only [List.length_append, List.length_singleton]
end
end Go.Proofs.YtnfdepafmmibaaaDoor

/-! Texts as bytes, and digests of parts: what the program's functions and the reference's Bytes return. Conditions: the lengths are below 2^40. -/
set_option linter.unusedVariables false
set_option linter.unusedSimpArgs false
set_option maxRecDepth 20000
set_option maxHeartbeats 1000000
namespace Go.Proofs.YtnfdepafmmibaaaDoor
open Go
variable {zb : Bool}
theorem uvar_len (z : Nat) (h : z < 2 ^ 60) : (uvar z).length ≤ 10 ∧ 0 < (uvar z).length := by
  rw [uvar_eq, List.length_append, List.length_singleton]
  have := uhead_len 9 z (by omega)
  omega
section
variable {s0 : St}
theorem R89 (n : Nat) (kk : AX → Env → St → Res) (z : Nat) : z < 2 ^ 60 → ∀ (p : List UInt8) (j : Nat) (r : Nat), (uhead z).length ≤ j → p.length + j < 100 →
    lp89_5 (Y0 zb) (acall (X0 zb) n) n 0 2 kk (r + j) (vq z) (.list (.own s0.length 1) p.length (bcells p)) ({ blks := [], toks := [0, p.length] } :: s0)
    = lp89_5 (Y0 zb) (acall (X0 zb) n) n 0 2 kk (r + (j - (uhead z).length)) (vq (ulast z)) (.list (.own s0.length 1) (p ++ uhead z).length (bcells (p ++ uhead z))) ({ blks := [], toks := [0, (p ++ uhead z).length] } :: s0) := by
  induction z using Nat.strongRecOn with
  | _ z ih =>
    intro hz p j r hj hp
    by_cases h : z < 128
    · rw [uhead_lt z h, ulast_lt z h]; simp
    · rw [uhead_ge z h] at hj ⊢
      rw [ulast_ge z h]
      rw [List.length_cons] at hj
      obtain ⟨j, rfl⟩ : ∃ i, j = i + 1 := ⟨j - 1, by omega⟩
      have hb := bcells_len p
      have i1 := ih (z / 128) (by omega) (by omega) (p ++ [UInt8.ofNat (z % 128 + 128)]) j r (by omega) (by rw [List.length_append, List.length_singleton]; omega)
      simp only [List.append_assoc, List.singleton_append, List.length_append, List.length_singleton] at i1
      rw [show r + (j + 1) = (r + j) + 1 by omega, D89L5]
      simp -implicitDefEqProofs (disch := first | omega | (simp only [rB]; done) | (simp only [rL] <;> omega) | fail) only [↓rP, rO, Int.reduceAdd, Int.reduceSub, Int.reduceMul, Int.reduceNeg, Int.reduceToNat, Int.reduceLT, Int.reduceLE, Int.reduceEq, Nat.reduceAdd, Nat.reduceMul, Nat.reduceSub, Nat.reduceLT, Nat.reduceLeDiff, Nat.reduceEqDiff, rT, rI, conv_q8, q_rem, q_quo, y_add, add128, bcells_snoc]
      refine i1.trans ?_
      simp only [List.length_append, List.length_cons]
      rw [show j + 1 - ((uhead (z / 128)).length + 1) = j - (uhead (z / 128)).length by omega]
theorem F89 (n : Nat) (hn : 200 ≤ n) (k : Nat) (hk : k < 2 ^ 50) (f1 : Frm) (r : St) :
    acall (X0 zb) n 89 [vi k] (f1 :: r) = some (.list (.own r.length f1.toks.length) (wireInt k).length (bcells (wireInt k)), { f1 with toks := f1.toks ++ [(wireInt k).length] } :: r) := by
  obtain ⟨n, rfl⟩ : ∃ m, n = m + 1 := ⟨n - 1, by omega⟩
  have hl := uhead_len 9 (k * 2) (by omega)
  have hs := ulast_small (k * 2)
  rw [E89, D89, wireInt_nat, uvar_eq]
  simp -implicitDefEqProofs (disch := first | omega | (simp only [rB]; done) | (simp only [rL] <;> omega) | fail) only [↓rP, rO, Int.reduceAdd, Int.reduceSub, Int.reduceMul, Int.reduceNeg, Int.reduceToNat, Int.reduceLT, Int.reduceLE, Int.reduceEq, Nat.reduceAdd, Nat.reduceMul, Nat.reduceSub, Nat.reduceLT, Nat.reduceLeDiff, Nat.reduceEqDiff, rT, rI, wq_id, q_mul]
  generalize hkk : kont _ _ _ _ _ _ _ = kk
  have e := R89 (zb := zb) (s0 := f1 :: r) n kk (k * 2) (by omega) [] 9 (n - 9) hl (by simp)
  rw [show n - 9 + 9 = n by omega] at e
  simp only [List.nil_append] at e
  refine e.trans ?_
  subst hkk
  obtain ⟨q, hq⟩ : ∃ q, n - 9 + (9 - (uhead (k * 2)).length) = q + 1 := ⟨n - 9 + (9 - (uhead (k * 2)).length) - 1, by omega⟩
  rw [hq, D89L5]
  simp -implicitDefEqProofs (disch := first | omega | (simp only [rB]; done) | (simp only [rL] <;> omega) | fail) only [↓rP, rO, Int.reduceAdd, Int.reduceSub, Int.reduceMul, Int.reduceNeg, Int.reduceToNat, Int.reduceLT, Int.reduceLE, Int.reduceEq, Nat.reduceAdd, Nat.reduceMul, Nat.reduceSub, Nat.reduceLT, Nat.reduceLeDiff, Nat.reduceEqDiff, rT, rI]
  rw [D89K5exit0]
  have hb := bcells_len (uhead (k * 2))
  simp -implicitDefEqProofs (disch := first | omega | (simp only [rB]; done) | (simp only [rL] <;> omega) | fail) only [↓rP, rO, Int.reduceAdd, Int.reduceSub, Int.reduceMul, Int.reduceNeg, Int.reduceToNat, Int.reduceLT, Int.reduceLE, Int.reduceEq, Nat.reduceAdd, Nat.reduceMul, Nat.reduceSub, Nat.reduceLT, Nat.reduceLeDiff, Nat.reduceEqDiff, rT, rI, conv_q8, bcells_snoc, leaveG_own]
  simp only [List.length_append, List.length_singleton]
theorem wireBytes_len (l : List UInt8) (hl : l.length < 2 ^ 40) : l.length ≤ (wireBytes l).length ∧ (wireBytes l).length ≤ l.length + 10 := by
  have := uvar_len (l.length * 2) (by omega)
  rw [wireBytes, List.length_append, wireInt_nat]; omega
theorem F63 (n : Nat) (hn : 300 ≤ n) (l : List UInt8) (hl : l.length < 2 ^ 40) : acall (X0 zb) n 63 [vs l] s0 = some (.list .none (wireBytes l).length (bcells (wireBytes l)), s0) := by
  obtain ⟨n, rfl⟩ : ∃ m, n = m + 1 := ⟨n - 1, by omega⟩
  have hw := uvar_len (l.length * 2) (by omega)
  have hb := bcells_len (wireInt l.length)
  rw [← wireInt_nat] at hw
  rw [E63, D63, wireBytes]
  cases l with
  | nil =>
    simp only [List.length_nil] at *
    simp -implicitDefEqProofs (disch := first | omega | (simp only [rB]; done) | (simp only [rL] <;> omega) | fail) only [↓rP, rO, Int.reduceAdd, Int.reduceSub, Int.reduceMul, Int.reduceNeg, Int.reduceToNat, Int.reduceLT, Int.reduceLE, Int.reduceEq, Nat.reduceAdd, Nat.reduceMul, Nat.reduceSub, Nat.reduceLT, Nat.reduceLeDiff, Nat.reduceEqDiff, rT, rI, F77, outV_own, bcells_app, List.append_nil]
  | cons a l =>
    simp only [List.length_cons] at *
    simp -implicitDefEqProofs (disch := first | omega | (simp only [rB]; done) | (simp only [rL] <;> omega) | fail) only [↓rP, rO, Int.reduceAdd, Int.reduceSub, Int.reduceMul, Int.reduceNeg, Int.reduceToNat, Int.reduceLT, Int.reduceLE, Int.reduceEq, Nat.reduceAdd, Nat.reduceMul, Nat.reduceSub, Nat.reduceLT, Nat.reduceLeDiff, Nat.reduceEqDiff, rT, rI, F77, outV_own, bcells_app]
    simp only [List.length_append, List.length_cons]
theorem F79 (n : Nat) (hn : 300 ≤ n) (l : List UInt8) (hl : l.length < 2 ^ 40) : acall (X0 zb) n 79 [vs l] s0 = some (.list .none (wireBytes l).length (bcells (wireBytes l)), s0) := by
  obtain ⟨n, rfl⟩ : ∃ m, n = m + 1 := ⟨n - 1, by omega⟩
  have hw := uvar_len (l.length * 2) (by omega)
  have hb := bcells_len (wireInt l.length)
  rw [← wireInt_nat] at hw
  rw [E79, D79, wireBytes]
  cases l with
  | nil =>
    simp only [List.length_nil] at *
    simp -implicitDefEqProofs (disch := first | omega | (simp only [rB]; done) | (simp only [rL] <;> omega) | fail) only [↓rP, rO, Int.reduceAdd, Int.reduceSub, Int.reduceMul, Int.reduceNeg, Int.reduceToNat, Int.reduceLT, Int.reduceLE, Int.reduceEq, Nat.reduceAdd, Nat.reduceMul, Nat.reduceSub, Nat.reduceLT, Nat.reduceLeDiff, Nat.reduceEqDiff, rT, rI, F89, outV_own, bcells_app, List.append_nil]
  | cons a l =>
    simp only [List.length_cons] at *
    simp -implicitDefEqProofs (disch := first | omega | (simp only [rB]; done) | (simp only [rL] <;> omega) | fail) only [↓rP, rO, Int.reduceAdd, Int.reduceSub, Int.reduceMul, Int.reduceNeg, Int.reduceToNat, Int.reduceLT, Int.reduceLE, Int.reduceEq, Nat.reduceAdd, Nat.reduceMul, Nat.reduceSub, Nat.reduceLT, Nat.reduceLeDiff, Nat.reduceEqDiff, rT, rI, F89, outV_own, bcells_app]
    simp only [List.length_append, List.length_cons]
/-- What a stream has taken in of the parts. -/
def partsIn (ps : List (List UInt8)) : List UInt8 := ps.flatMap wireBytes
def scells (ps : List (List UInt8)) : List DV := ps.map fun l => .v (.string ⟨l.toArray⟩)
theorem scells_len (ps : List (List UInt8)) : (scells ps).length = ps.length := by simp [scells]
theorem scells_get (ps : List (List UInt8)) (i : Nat) (l : List UInt8) (h : ps[i]? = some l) : (scells ps)[i]? = some (.v (.string ⟨l.toArray⟩)) := by
  rw [scells, List.getElem?_map, h]; rfl
abbrev ofst (s0 : St) (R : List AV) (x : Hs) (blk : List UInt8) (n : Nat) : St :=
  { blks := [⟨31, 0, R⟩, ⟨104, 0, strm x blk n⟩], toks := [] } :: s0
theorem partsIn_succ (ps : List (List UInt8)) (i : Nat) (l : List UInt8) (h : ps[i]? = some l) : partsIn (ps.take (i + 1)) = partsIn (ps.take i) ++ wireBytes l := by
  rw [List.take_add_one, h]
  simp [partsIn]
theorem strm_fit (d k t N : Nat) (x : Hs) (blk : List UInt8) : (strm x blk N).map (fit d k t) = strm x blk N := fit_plain d k t strm_plain
theorem strm_bare (N : Nat) (x : Hs) (blk : List UInt8) : (strm x blk N).map bareCell = strm x blk N := bare_plain strm_plain
theorem strm_take (N : Nat) (x : Hs) (blk : List UInt8) (h : blk.length = 64) : (strm x blk N).take 73 = strm x blk N := List.take_of_length_le (by rw [strm_len h]; omega)
theorem strm_setall (N M : Nat) (x z : Hs) (blk blk2 : List UInt8) (h : blk.length = 64) (h2 : blk2.length = 64) : setAt (strm x blk N) 0 (strm z blk2 M) = strm z blk2 M := setAt_all _ _ (by rw [strm_len h, strm_len h2])
theorem R37 (n : Nat) (hn : 2 ^ 50 ≤ n) (kk : AX → Env → St → Res) (R : List AV) (tag : Tag) (htag : tag = .none ∨ tag = .full) (ps : List (List UInt8)) (hps : ∀ l ∈ ps, l.length < 2 ^ 40) (hpl : ps.length < 2 ^ 16) (m : List UInt8) (x : Hs) (blk : List UInt8) (h : SInv m x blk) (hm : m.length < 2 ^ 50) (i : Nat) : i ≤ ps.length → ∀ (r : Nat),
    ∃ x' blk', SInv (m ++ partsIn (ps.take i)) x' blk' ∧ (m ++ partsIn (ps.take i)).length ≤ m.length + i * 2 ^ 41 ∧
    lp37_3 (Y0 zb) (acall (X0 zb) n) n 2 0 kk (r + i) (.ptr s0.length 0 0) (.ptr s0.length 1 0) (.list tag ps.length (scells ps)) (vi ps.length) (vi 0) (ofst s0 R x blk m.length)
    = lp37_3 (Y0 zb) (acall (X0 zb) n) n 2 0 kk r (.ptr s0.length 0 0) (.ptr s0.length 1 0) (.list tag ps.length (scells ps)) (vi ps.length) (vi i) (ofst s0 R x' blk' (m ++ partsIn (ps.take i)).length) := by
  induction i with
  | zero => intro _ r; exact ⟨x, blk, by simpa [partsIn] using h, by simp [partsIn], by simp [partsIn]⟩
  | succ i ih =>
    intro hi r
    obtain ⟨x1, b1, g1, g2, g3⟩ := ih (by omega) (r + 1)
    have hl := g1.len
    obtain ⟨l, hL⟩ : ∃ l, ps[i]? = some l := ⟨ps[i], List.getElem?_eq_getElem (by omega)⟩
    have hll : l.length < 2 ^ 40 := hps l (List.mem_of_getElem? hL)
    have hwl := wireBytes_len l hll
    have hin : i * 2 ^ 41 ≤ 2 ^ 16 * 2 ^ 41 := Nat.mul_le_mul_right _ (by omega)
    obtain ⟨x2, b2, k1, k2⟩ := F62 (zb := zb) (s0 := ofst s0 R x1 b1 (m ++ partsIn (ps.take i)).length) n (wireBytes l) (m ++ partsIn (ps.take i)) x1 b1 g1 (by omega) (by omega)
    have hl2 := k1.len
    rw [List.append_assoc, ← partsIn_succ ps i l hL] at k1 k2
    refine ⟨x2, b2, k1, ?_, ?_⟩
    · rw [partsIn_succ ps i l hL, ← List.append_assoc, List.length_append]; omega
    · have hsl := scells_len ps
      have hg := scells_get ps i l hL
      rw [show r + (i + 1) = r + 1 + i by omega, g3, D37L3]
      rcases htag with rfl | rfl
      · simp -implicitDefEqProofs (disch := first | omega | (simp only [rB]; done) | (simp only [rL] <;> omega) | fail) only [↓rP, rO, Int.reduceAdd, Int.reduceSub, Int.reduceMul, Int.reduceNeg, Int.reduceToNat, Int.reduceLT, Int.reduceLE, Int.reduceEq, Nat.reduceAdd, Nat.reduceMul, Nat.reduceSub, Nat.reduceLT, Nat.reduceLeDiff, Nat.reduceEqDiff, rT, rI, hg, DV.av, F63, k2, strm_len hl, strm_len hl2, strm_take _ _ _ hl, strm_take _ _ _ hl2, strm_fit, strm_bare, strm_setall _ _ _ _ _ _ hl hl2]
        rfl
      · simp -implicitDefEqProofs (disch := first | omega | (simp only [rB]; done) | (simp only [rL] <;> omega) | fail) only [↓rP, rO, Int.reduceAdd, Int.reduceSub, Int.reduceMul, Int.reduceNeg, Int.reduceToNat, Int.reduceLT, Int.reduceLE, Int.reduceEq, Nat.reduceAdd, Nat.reduceMul, Nat.reduceSub, Nat.reduceLT, Nat.reduceLeDiff, Nat.reduceEqDiff, rT, rI, hg, DV.av, F63, k2, strm_len hl, strm_len hl2, strm_take _ _ _ hl, strm_take _ _ _ hl2, strm_fit, strm_bare, strm_setall _ _ _ _ _ _ hl hl2]
        rfl
theorem tag_conv (t : Int) : IntKind.wrap .u8 t = ((tagByte t).toNat : Int) := by
  rw [w8_mod, tagByte, UInt8.toNat_ofNat']; omega
theorem F37 (n : Nat) (hn : 2 ^ 51 ≤ n) (t : Int) (tag : Tag) (htag : tag = .none ∨ tag = .full) (ps : List (List UInt8)) (hps : ∀ l ∈ ps, l.length < 2 ^ 40) (hpl : ps.length < 2 ^ 16) :
    acall (X0 zb) n 37 [vi t, .list tag ps.length (scells ps)] s0 = some (vd (hashOf t ps), s0) := by
  obtain ⟨n, rfl⟩ : ∃ m, n = m + 1 := ⟨n - 1, by omega⟩
  rw [E37, D37]
  obtain ⟨x1, b1, k1, k2⟩ := F62 (zb := zb) (s0 := ofst s0 (List.replicate 16 (AV.v (.int .u8 0))) ⟨0, 0, 0, 0, 0, 0, 0, 0⟩ (List.replicate 64 0) 0) n [tagByte t] [] iv (List.replicate 64 0) SInv.zero (by simp; omega) (by simp)
  have hl1 := k1.len
  have hz : (List.replicate 64 (0 : UInt8)).length = 64 := by simp
  simp only [List.nil_append, List.length_nil, List.length_singleton] at k1 k2
  have c1 : ∀ s, aConvS (Y0 zb).P 73 9 (.list .full 1 [.v (.int .u8 ((tagByte t).toNat : Int))]) s = some (vs [tagByte t]) := fun s => cvb73_9 .full 1 [tagByte t] rfl s
  simp -implicitDefEqProofs (disch := first | omega | exact plain_rep _ _ | exact strm_plain) only [↓rP, rO, Int.reduceAdd, Int.reduceSub, Int.reduceMul, Int.reduceNeg, Int.reduceToNat, Int.reduceLT, Int.reduceLE, Int.reduceEq, Nat.reduceAdd, Nat.reduceMul, Nat.reduceSub, Nat.reduceLT, Nat.reduceLeDiff, Nat.reduceEqDiff, rT, rI, strm_zero, F61, tag_conv, c1, k2, strm_fit, strm_len hl1, strm_len hz, strm_setall _ _ _ _ _ _ hz hl1]
  generalize hkk : kont _ _ _ _ _ _ _ = kk
  obtain ⟨x2, b2, i1, i2, i3⟩ := R37 (zb := zb) (s0 := s0) n (by omega) kk (List.replicate 16 (AV.v (.int .u8 0))) tag htag ps hps hpl [tagByte t] x1 b1 k1 (by simp) ps.length (Nat.le_refl _) (n - ps.length)
  rw [List.take_length, show [tagByte t] ++ partsIn ps = hashIn t ps from rfl] at i1 i2 i3
  rw [show n - ps.length + ps.length = n by omega] at i3
  refine i3.trans ?_
  subst hkk
  have hl2 := i1.len
  have hin : ps.length * 2 ^ 41 ≤ 2 ^ 16 * 2 ^ 41 := Nat.mul_le_mul_right _ (by omega)
  have hS := fun s0 => F64 (zb := zb) (s0 := s0) n i1 (by omega) (by simp only [List.length_singleton] at i2; omega)
  rw [show n - ps.length = (n - ps.length - 1) + 1 by omega, D37L3]
  simp -implicitDefEqProofs (disch := first | omega | (simp only [rB]; done) | (simp only [rL] <;> omega) | fail) only [↓rP, rO, Int.reduceAdd, Int.reduceSub, Int.reduceMul, Int.reduceNeg, Int.reduceToNat, Int.reduceLT, Int.reduceLE, Int.reduceEq, Nat.reduceAdd, Nat.reduceMul, Nat.reduceSub, Nat.reduceLT, Nat.reduceLeDiff, Nat.reduceEqDiff, rT, rI]
  rw [D37K3exit0]
  have hs32 : ((sha (hashIn t ps)).map vy).length = 32 := by rw [List.length_map, sha_len]
  have sa : setAt (List.replicate 32 (AV.v (.int .u8 0))) 0 ((sha (hashIn t ps)).map vy) = (sha (hashIn t ps)).map vy := setAt_all _ _ (by rw [hs32]; simp)
  have e16 : ((sha (hashIn t ps)).map vy).take 16 = (hashOf t ps).val.map vy := by rw [← List.map_take]; rfl
  have h16 : ((hashOf t ps).val.map vy).length = 16 := by rw [List.length_map, Dig.len]
  have sb : setAt (List.replicate 16 (AV.v (.int .u8 0))) 0 ((hashOf t ps).val.map vy) = (hashOf t ps).val.map vy := setAt_all _ _ (by rw [h16]; simp)
  have t16 : ((hashOf t ps).val.map vy).take 16 = (hashOf t ps).val.map vy := List.take_of_length_le (by omega)
  simp -implicitDefEqProofs (disch := first | omega | (simp only [rB]; done) | exact plain_rep _ _ | exact map_plain_w _ | exact map_plain_y _ | (apply plain_cons; repeat (first | exact plain_nil | apply plain_cons)) | (simp only [rL] <;> omega) | fail) only [↓rP, rO, Int.reduceAdd, Int.reduceSub, Int.reduceMul, Int.reduceNeg, Int.reduceToNat, Int.reduceLT, Int.reduceLE, Int.reduceEq, Nat.reduceAdd, Nat.reduceMul, Nat.reduceSub, Nat.reduceLT, Nat.reduceLeDiff, Nat.reduceEqDiff, rT, rI, strm_len hl2, strm_take _ _ _ hl2, strm_bare, hS, hs32, sa, e16, h16, sb, t16, map_fit_y, map_bare_y, List.length_replicate]
  rfl
end
end Go.Proofs.YtnfdepafmmibaaaDoor

/-! SHA-256 in the reference: the padded message and the words of a block. Conditions: the message's length is below 2^46. -/
set_option linter.unusedVariables false
set_option linter.unusedSimpArgs false
set_option maxRecDepth 20000
set_option maxHeartbeats 1000000
namespace Go.Proofs.YtnfdepafmmibaaaDoor
open Go
variable {zb : Bool}
theorem bget (c : List UInt8) (k : Nat) (h : k < c.length) : (bcells c)[k]? = some (.v (.int .u8 ((c.getD k 0).toNat : Int))) := by
  rw [bcells, List.getElem?_map, List.getD_eq_getElem?_getD, List.getElem?_eq_getElem h]; rfl
theorem bcells_drop (c : List UInt8) (k : Nat) : (bcells c).drop k = bcells (c.drop k) := by simp [bcells]
theorem bcells_take (c : List UInt8) (k : Nat) : (bcells c).take k = bcells (c.take k) := by simp [bcells]
section
variable {s0 : St}
theorem R86a (n : Nat) (kk : AX → Env → St → Res) (tag : Tag) (htag : tag = .none ∨ tag = .full) (m : List UInt8) (hm : m.length < 2 ^ 46) (j : Nat) : ∀ (r i : Nat), i + j = padz m.length →
    lp86_3 (Y0 zb) (acall (X0 zb) n) n 0 2 kk (r + j) (.list tag m.length (bcells m)) (.list (.own s0.length 1) (m.length + (i + 1)) (bcells (m ++ padp i))) ({ blks := [], toks := [0, m.length + (i + 1)] } :: s0)
    = lp86_3 (Y0 zb) (acall (X0 zb) n) n 0 2 kk r (.list tag m.length (bcells m)) (.list (.own s0.length 1) (m.length + (padz m.length + 1)) (bcells (m ++ padp (padz m.length)))) ({ blks := [], toks := [0, m.length + (padz m.length + 1)] } :: s0) := by
  induction j with
  | zero =>
    intro r i hi
    obtain rfl : i = padz m.length := by omega
    rfl
  | succ j ih =>
    intro r i hi
    have hz := padz_lt m.length
    have hmn := padz_min m.length i (by omega)
    have e1 : ¬ ((m.length + (i + 1) : Nat) : Int) % 64 = 56 := by omega
    have hp : (bcells (m ++ padp i)).length = (m.length + (i + 1)) * 1 := by rw [bcells_len, List.length_append, padp_len]; omega
    have g := ih r (i + 1) (by omega)
    rw [← padp_snoc, ← List.append_assoc] at g
    rw [show r + (j + 1) = (r + j) + 1 by omega, D86L3]
    rcases htag with rfl | rfl
    · simp -implicitDefEqProofs (disch := first | omega | (simp only [rB]; done) | (simp only [rL] <;> omega) | fail) only [↓rP, rO, Int.reduceAdd, Int.reduceSub, Int.reduceMul, Int.reduceNeg, Int.reduceToNat, Int.reduceLT, Int.reduceLE, Int.reduceEq, Nat.reduceAdd, Nat.reduceMul, Nat.reduceSub, Nat.reduceLT, Nat.reduceLeDiff, Nat.reduceEqDiff, rT, rI, hp, bcells_snoc]
      exact g
    · simp -implicitDefEqProofs (disch := first | omega | (simp only [rB]; done) | (simp only [rL] <;> omega) | fail) only [↓rP, rO, Int.reduceAdd, Int.reduceSub, Int.reduceMul, Int.reduceNeg, Int.reduceToNat, Int.reduceLT, Int.reduceLE, Int.reduceEq, Nat.reduceAdd, Nat.reduceMul, Nat.reduceSub, Nat.reduceLT, Nat.reduceLeDiff, Nat.reduceEqDiff, rT, rI, hp, bcells_snoc]
      exact g
theorem R86b (n : Nat) (kk : AX → Env → St → Res) (N : Nat) (hN : N < 2 ^ 59) (p : List UInt8) (hp : p.length < 2 ^ 46 + 100) (j : Nat) : ∀ (r i : Nat), i + j = 8 →
    lp86_7 (Y0 zb) (acall (X0 zb) n) n 0 2 kk (r + j) (.list (.own s0.length 1) (p.length + i) (bcells (p ++ (be8 (8 * N)).take i))) (vq (8 * N)) (vi i) ({ blks := [], toks := [0, p.length + i] } :: s0)
    = lp86_7 (Y0 zb) (acall (X0 zb) n) n 0 2 kk r (.list (.own s0.length 1) (p.length + 8) (bcells (p ++ be8 (8 * N)))) (vq (8 * N)) (vi 8) ({ blks := [], toks := [0, p.length + 8] } :: s0) := by
  induction j with
  | zero =>
    intro r i hi
    obtain rfl : i = 8 := by omega
    rw [List.take_of_length_le (by rw [be8_len]; omega)]
    rfl
  | succ j ih =>
    intro r i hi
    have hb : (bcells (p ++ (be8 (8 * N)).take i)).length = (p.length + i) * 1 := by rw [bcells_len, List.length_append, List.length_take, be8_len]; omega
    have e1 : (56 : Int) - 8 * (i : Int) = ((56 - 8 * i : Nat) : Int) := by omega
    have g2 := ih r (i + 1) (by omega)
    rw [be8_succ _ _ (by omega), ← List.append_assoc] at g2
    rw [show r + (j + 1) = (r + j) + 1 by omega, D86L7]
    simp -implicitDefEqProofs (disch := first | omega | (simp only [rB]; done) | (simp only [rL] <;> omega) | fail) only [↓rP, rO, Int.reduceAdd, Int.reduceSub, Int.reduceMul, Int.reduceNeg, Int.reduceToNat, Int.reduceLT, Int.reduceLE, Int.reduceEq, Nat.reduceAdd, Nat.reduceMul, Nat.reduceSub, Nat.reduceLT, Nat.reduceLeDiff, Nat.reduceEqDiff, rT, rI, q_shr, e1, conv_q8, bcells_snoc]
    exact g2
theorem F86 (n : Nat) (hn : 1000 ≤ n) (tag : Tag) (htag : tag = .none ∨ tag = .full) (m : List UInt8) (hm : m.length < 2 ^ 46) :
    acall (X0 zb) n 86 [.list tag m.length (bcells m)] s0 = some (.list .none (m ++ pad m.length).length (bcells (m ++ pad m.length)), s0) := by
  obtain ⟨n, rfl⟩ : ∃ k, n = k + 1 := ⟨n - 1, by omega⟩
  have hz := padz_lt m.length
  have hpl := padp_len (padz m.length)
  have ep : m ++ padp (padz m.length) ++ be8 (8 * m.length) = m ++ pad m.length := by simp [padp, pad]
  have eQ : (m ++ padp (padz m.length)).length = m.length + (padz m.length + 1) := by rw [List.length_append, hpl]
  have eL : (m ++ padp (padz m.length)).length + 8 = (m ++ pad m.length).length := by rw [← ep, List.length_append, List.length_append, be8_len, List.length_append]
  have ez : ((m.length + (padz m.length + 1) : Nat) : Int) % 64 = 56 := by
    have := padz_end m.length
    omega
  obtain ⟨q, hq⟩ : ∃ q, n - padz m.length = q + 1 := ⟨n - padz m.length - 1, by omega⟩
  have start : acall (X0 zb) (n + 1) 86 [.list tag m.length (bcells m)] s0 = lp86_3 (Y0 zb) (acall (X0 zb) n) n 0 2 (kont (cxOf (Y0 zb)) (acall (X0 zb) n) n (liveT 86) (sub (bodyOf Tryd.f86) []) [1, 1, 1, 0, 0] (aEnd (cxOf (Y0 zb)) 86 (adef (X0 zb) (acall (X0 zb) n) n) Tryd.f86.results.toList)) n
      (.list tag m.length (bcells m)) (.list (.own s0.length 1) (m.length + (0 + 1)) (bcells (m ++ padp 0))) ({ blks := [], toks := [0, m.length + (0 + 1)] } :: s0) := by
    rw [E86, D86]
    cases m with
    | nil =>
      have hn0 : bcells [] = [] := rfl
      simp only [hn0, List.length_nil]
      simp -implicitDefEqProofs (disch := first | omega | (simp only [rB]; done) | (simp only [rL] <;> omega) | fail) only [↓rP, rO, Int.reduceAdd, Int.reduceSub, Int.reduceMul, Int.reduceNeg, Int.reduceToNat, Int.reduceLT, Int.reduceLE, Int.reduceEq, Nat.reduceAdd, Nat.reduceMul, Nat.reduceSub, Nat.reduceLT, Nat.reduceLeDiff, Nat.reduceEqDiff, rT, rI]
      rfl
    | cons a m =>
      have hbl := bcells_len (a :: m)
      have hpos : 0 < (a :: m).length := by simp
      generalize a :: m = M at *
      simp -implicitDefEqProofs (disch := first | omega | (simp only [rB]; done) | (simp only [rL] <;> omega) | fail) only [↓rP, rO, Int.reduceAdd, Int.reduceSub, Int.reduceMul, Int.reduceNeg, Int.reduceToNat, Int.reduceLT, Int.reduceLE, Int.reduceEq, Nat.reduceAdd, Nat.reduceMul, Nat.reduceSub, Nat.reduceLT, Nat.reduceLeDiff, Nat.reduceEqDiff, rT, rI, bcells_snoc]
      rfl
  rw [start]
  generalize hkk : kont _ _ _ _ _ _ _ = kk
  have e := R86a (zb := zb) (s0 := s0) n kk tag htag m hm (padz m.length) (n - padz m.length) 0 (by omega)
  rw [show n - padz m.length + padz m.length = n by omega] at e
  refine e.trans ?_
  subst hkk
  rw [hq, D86L3]
  rcases htag with rfl | rfl
  · simp -implicitDefEqProofs (disch := first | omega | (simp only [rB]; done) | (simp only [rL] <;> omega) | fail) only [↓rP, rO, Int.reduceAdd, Int.reduceSub, Int.reduceMul, Int.reduceNeg, Int.reduceToNat, Int.reduceLT, Int.reduceLE, Int.reduceEq, Nat.reduceAdd, Nat.reduceMul, Nat.reduceSub, Nat.reduceLT, Nat.reduceLeDiff, Nat.reduceEqDiff, rT, rI]
    rw [D86K3exit0]
    simp -implicitDefEqProofs (disch := first | omega | (simp only [rB]; done) | (simp only [rL] <;> omega) | fail) only [↓rP, rO, Int.reduceAdd, Int.reduceSub, Int.reduceMul, Int.reduceNeg, Int.reduceToNat, Int.reduceLT, Int.reduceLE, Int.reduceEq, Nat.reduceAdd, Nat.reduceMul, Nat.reduceSub, Nat.reduceLT, Nat.reduceLeDiff, Nat.reduceEqDiff, rT, rI, wq_id, q_mul]
    generalize hkk : kont _ _ _ _ _ _ _ = kk
    have e2 := R86b (zb := zb) (s0 := s0) n kk m.length (by omega) (m ++ padp (padz m.length)) (by rw [List.length_append]; omega) 8 (n - 8) 0 (by omega)
    rw [show n - 8 + 8 = n by omega, List.take_zero, List.append_nil, ep, eL, Nat.add_zero, eQ] at e2
    refine e2.trans ?_
    subst hkk
    rw [show n - 8 = (n - 9) + 1 by omega, D86L7]
    simp -implicitDefEqProofs (disch := first | omega | (simp only [rB]; done) | (simp only [rL] <;> omega) | fail) only [↓rP, rO, Int.reduceAdd, Int.reduceSub, Int.reduceMul, Int.reduceNeg, Int.reduceToNat, Int.reduceLT, Int.reduceLE, Int.reduceEq, Nat.reduceAdd, Nat.reduceMul, Nat.reduceSub, Nat.reduceLT, Nat.reduceLeDiff, Nat.reduceEqDiff, rT, rI]
    rw [D86K7exit2]
    simp -implicitDefEqProofs (disch := first | omega | (simp only [rB]; done) | (simp only [rL] <;> omega) | fail) only [↓rP, rO, Int.reduceAdd, Int.reduceSub, Int.reduceMul, Int.reduceNeg, Int.reduceToNat, Int.reduceLT, Int.reduceLE, Int.reduceEq, Nat.reduceAdd, Nat.reduceMul, Nat.reduceSub, Nat.reduceLT, Nat.reduceLeDiff, Nat.reduceEqDiff, rT, rI, outV_own]
  · simp -implicitDefEqProofs (disch := first | omega | (simp only [rB]; done) | (simp only [rL] <;> omega) | fail) only [↓rP, rO, Int.reduceAdd, Int.reduceSub, Int.reduceMul, Int.reduceNeg, Int.reduceToNat, Int.reduceLT, Int.reduceLE, Int.reduceEq, Nat.reduceAdd, Nat.reduceMul, Nat.reduceSub, Nat.reduceLT, Nat.reduceLeDiff, Nat.reduceEqDiff, rT, rI]
    rw [D86K3exit0]
    simp -implicitDefEqProofs (disch := first | omega | (simp only [rB]; done) | (simp only [rL] <;> omega) | fail) only [↓rP, rO, Int.reduceAdd, Int.reduceSub, Int.reduceMul, Int.reduceNeg, Int.reduceToNat, Int.reduceLT, Int.reduceLE, Int.reduceEq, Nat.reduceAdd, Nat.reduceMul, Nat.reduceSub, Nat.reduceLT, Nat.reduceLeDiff, Nat.reduceEqDiff, rT, rI, wq_id, q_mul]
    generalize hkk : kont _ _ _ _ _ _ _ = kk
    have e2 := R86b (zb := zb) (s0 := s0) n kk m.length (by omega) (m ++ padp (padz m.length)) (by rw [List.length_append]; omega) 8 (n - 8) 0 (by omega)
    rw [show n - 8 + 8 = n by omega, List.take_zero, List.append_nil, ep, eL, Nat.add_zero, eQ] at e2
    refine e2.trans ?_
    subst hkk
    rw [show n - 8 = (n - 9) + 1 by omega, D86L7]
    simp -implicitDefEqProofs (disch := first | omega | (simp only [rB]; done) | (simp only [rL] <;> omega) | fail) only [↓rP, rO, Int.reduceAdd, Int.reduceSub, Int.reduceMul, Int.reduceNeg, Int.reduceToNat, Int.reduceLT, Int.reduceLE, Int.reduceEq, Nat.reduceAdd, Nat.reduceMul, Nat.reduceSub, Nat.reduceLT, Nat.reduceLeDiff, Nat.reduceEqDiff, rT, rI]
    rw [D86K7exit2]
    simp -implicitDefEqProofs (disch := first | omega | (simp only [rB]; done) | (simp only [rL] <;> omega) | fail) only [↓rP, rO, Int.reduceAdd, Int.reduceSub, Int.reduceMul, Int.reduceNeg, Int.reduceToNat, Int.reduceLT, Int.reduceLE, Int.reduceEq, Nat.reduceAdd, Nat.reduceMul, Nat.reduceSub, Nat.reduceLT, Nat.reduceLeDiff, Nat.reduceEqDiff, rT, rI, outV_own]
/-! ### The words -/
abbrev wst (s0 : St) (R W : List AV) : St := { blks := [⟨123, 0, R⟩, ⟨123, 0, W⟩], toks := [] } :: s0
theorem R87a (n : Nat) (kk : AX → Env → St → Res) (tag : Tag) (htag : tag = .none ∨ tag = .full) (c : List UInt8) (hc : c.length = 64) (R : List AV) (i : Nat) : i ≤ 16 → ∀ r,
    lp87_3 (Y0 zb) (acall (X0 zb) n) n 2 0 kk (r + i) (.list tag 64 (bcells c)) (.ptr s0.length 0 0) (.ptr s0.length 1 0) (vi 0) (wst s0 R (wcells []))
    = lp87_3 (Y0 zb) (acall (X0 zb) n) n 2 0 kk r (.list tag 64 (bcells c)) (.ptr s0.length 0 0) (.ptr s0.length 1 0) (vi i) (wst s0 R (wcells (ws c i))) := by
  induction i with
  | zero => intro _ r; rfl
  | succ t ih =>
    intro ht r
    have hw := ws_len c t
    have hl := wcells_len (ws c t) (by omega)
    have hs := wcells_set (ws c t) (by omega)
    rw [hw] at hs
    have hbl := bcells_len c
    have b0 := bget c (4 * t) (by omega)
    have b1 := bget c (4 * t + 1) (by omega)
    have b2 := bget c (4 * t + 2) (by omega)
    have b3 := bget c (4 * t + 3) (by omega)
    have e0 : (4 * (t : Int)).toNat = 4 * t := by omega
    have e1 : (4 * (t : Int) + 1).toNat = 4 * t + 1 := by omega
    have e2 : (4 * (t : Int) + 2).toNat = 4 * t + 2 := by omega
    have e3 : (4 * (t : Int) + 3).toNat = 4 * t + 3 := by omega
    have q24 : ∀ x : UInt32, aBin (Y0 zb).P .shl 100 (vw x) (vq 24) = some (vw (x <<< 24)) := fun x => w_shl _ _ _ x 24 (by decide)
    have q16 : ∀ x : UInt32, aBin (Y0 zb).P .shl 100 (vw x) (vq 16) = some (vw (x <<< 16)) := fun x => w_shl _ _ _ x 16 (by decide)
    have q8 : ∀ x : UInt32, aBin (Y0 zb).P .shl 100 (vw x) (vq 8) = some (vw (x <<< 8)) := fun x => w_shl _ _ _ x 8 (by decide)
    have en : nextw c (ws c t) t = be4 c t := if_pos (by omega)
    rw [show r + (t + 1) = (r + 1) + t by omega, ih (by omega) (r + 1), D87L3, ws, en, be4]
    rcases htag with rfl | rfl
    · simp -implicitDefEqProofs (disch := first | omega | (simp only [rB]; done) | (simp only [rL] <;> omega) | fail) only [↓rP, rO, Int.reduceAdd, Int.reduceSub, Int.reduceMul, Int.reduceNeg, Int.reduceToNat, Int.reduceLT, Int.reduceLE, Int.reduceEq, Nat.reduceAdd, Nat.reduceMul, Nat.reduceSub, Nat.reduceLT, Nat.reduceLeDiff, Nat.reduceEqDiff, rT, rI, e0, e1, e2, e3, b0, b1, b2, b3, DV.av, conv8_32, q24, q16, q8, w_or, hl, hs]
      rfl
    · simp -implicitDefEqProofs (disch := first | omega | (simp only [rB]; done) | (simp only [rL] <;> omega) | fail) only [↓rP, rO, Int.reduceAdd, Int.reduceSub, Int.reduceMul, Int.reduceNeg, Int.reduceToNat, Int.reduceLT, Int.reduceLE, Int.reduceEq, Nat.reduceAdd, Nat.reduceMul, Nat.reduceSub, Nat.reduceLT, Nat.reduceLeDiff, Nat.reduceEqDiff, rT, rI, e0, e1, e2, e3, b0, b1, b2, b3, DV.av, conv8_32, q24, q16, q8, w_or, hl, hs]
      rfl
theorem R87b (n : Nat) (hn : 10 ≤ n) (kk : AX → Env → St → Res) (c : List UInt8) (R : List AV) (i : Nat) : 16 + i ≤ 64 → ∀ r,
    lp87_7 (Y0 zb) (acall (X0 zb) n) n 2 0 kk (r + i) (.ptr s0.length 0 0) (.ptr s0.length 1 0) (vi 16) (wst s0 R (wcells (ws c 16)))
    = lp87_7 (Y0 zb) (acall (X0 zb) n) n 2 0 kk r (.ptr s0.length 0 0) (.ptr s0.length 1 0) (vi (16 + i : Nat)) (wst s0 R (wcells (ws c (16 + i)))) := by
  induction i with
  | zero => intro _ r; rfl
  | succ i ih =>
    intro ht r
    rw [show r + (i + 1) = (r + 1) + i by omega, ih (by omega) (r + 1)]
    generalize hT : 16 + i = t at *
    have hw := ws_len c t
    have hl := wcells_len (ws c t) (by omega)
    have hs := wcells_set (ws c t) (by omega)
    rw [hw] at hs
    have hg : ∀ i, i < t → (wcells (ws c t))[i]? = some (vw ((ws c t).getD i 0)) := fun i hi => wcells_get _ _ (by omega)
    have t15 : ((t : Int) - 15).toNat = t - 15 := by omega
    have t2 : ((t : Int) - 2).toNat = t - 2 := by omega
    have t16 : ((t : Int) - 16).toNat = t - 16 := by omega
    have t7 : ((t : Int) - 7).toNat = t - 7 := by omega
    have r7 : ∀ x s, acall (X0 zb) n 88 [vw x, vi 7] s = some (vw (rotr x 7), s) := fun x s => F88 (zb := zb) n (by omega) x 7 (by decide) (by decide) s
    have r18 : ∀ x s, acall (X0 zb) n 88 [vw x, vi 18] s = some (vw (rotr x 18), s) := fun x s => F88 (zb := zb) n (by omega) x 18 (by decide) (by decide) s
    have r17 : ∀ x s, acall (X0 zb) n 88 [vw x, vi 17] s = some (vw (rotr x 17), s) := fun x s => F88 (zb := zb) n (by omega) x 17 (by decide) (by decide) s
    have r19 : ∀ x s, acall (X0 zb) n 88 [vw x, vi 19] s = some (vw (rotr x 19), s) := fun x s => F88 (zb := zb) n (by omega) x 19 (by decide) (by decide) s
    have en : nextw c (ws c t) t = (ws c t).getD (t - 16) 0 + sig0 ((ws c t).getD (t - 15) 0) + (ws c t).getD (t - 7) 0 + sig1 ((ws c t).getD (t - 2) 0) := if_neg (by omega)
    rw [D87L7, show 16 + (i + 1) = t + 1 by omega, ws, en, sig0, sig1]
    simp -implicitDefEqProofs (disch := first | omega | (simp only [rB]; done) | (simp only [rL] <;> omega) | fail) only [↓rP, rO, Int.reduceAdd, Int.reduceSub, Int.reduceMul, Int.reduceNeg, Int.reduceToNat, Int.reduceLT, Int.reduceLE, Int.reduceEq, Nat.reduceAdd, Nat.reduceMul, Nat.reduceSub, Nat.reduceLT, Nat.reduceLeDiff, Nat.reduceEqDiff, rT, rI, t15, t2, t16, t7, hg, r7, r18, r17, r19, w_xor, w_shr, w_add, hl, hs]
    rfl
theorem F87 (n : Nat) (hn : 200 ≤ n) (tag : Tag) (htag : tag = .none ∨ tag = .full) (c : List UInt8) (hc : c.length = 64) :
    acall (X0 zb) n 87 [.list tag 64 (bcells c)] s0 = some (.agg ((ws c 64).map vw), s0) := by
  obtain ⟨n, rfl⟩ : ∃ k, n = k + 1 := ⟨n - 1, by omega⟩
  have hw := ws_len c 64
  have z : List.replicate 64 (AV.v (.int .u32 0)) = wcells [] := rfl
  rw [E87, D87]
  simp -implicitDefEqProofs (disch := first | omega | (simp only [rB]; done) | exact plain_rep _ _ | exact map_plain_w _ | exact map_plain_y _ | (apply plain_cons; repeat (first | exact plain_nil | apply plain_cons)) | (simp only [rL] <;> omega) | fail) only [↓rP, rO, Int.reduceAdd, Int.reduceSub, Int.reduceMul, Int.reduceNeg, Int.reduceToNat, Int.reduceLT, Int.reduceLE, Int.reduceEq, Nat.reduceAdd, Nat.reduceMul, Nat.reduceSub, Nat.reduceLT, Nat.reduceLeDiff, Nat.reduceEqDiff, rT, rI, z]
  generalize hkk : kont _ _ _ _ _ _ _ = kk
  have e := R87a (zb := zb) (s0 := s0) n kk tag htag c hc (wcells []) 16 (by omega) (n - 16)
  rw [show n - 16 + 16 = n by omega] at e
  refine e.trans ?_
  subst hkk
  have e2 : wcells (ws c 64) = (ws c 64).map vw := by simp [wcells, hw]
  have e3 : ((ws c 64).map vw).length = 64 := by simp [hw]
  have e4 : setAt (wcells []) 0 ((ws c 64).map vw) = (ws c 64).map vw := setAt_all _ _ (by simp [hw, wcells])
  have e5 : (wcells []).length = 64 := by simp [wcells]
  have e6 : ((ws c 64).map vw).take 64 = (ws c 64).map vw := List.take_of_length_le (by omega)
  rw [show n - 16 = (n - 17) + 1 by omega, D87L3]
  simp -implicitDefEqProofs (disch := first | omega | (simp only [rB]; done) | (simp only [rL] <;> omega) | fail) only [↓rP, rO, Int.reduceAdd, Int.reduceSub, Int.reduceMul, Int.reduceNeg, Int.reduceToNat, Int.reduceLT, Int.reduceLE, Int.reduceEq, Nat.reduceAdd, Nat.reduceMul, Nat.reduceSub, Nat.reduceLT, Nat.reduceLeDiff, Nat.reduceEqDiff, rT, rI]
  rw [D87K3exit0]
  simp -implicitDefEqProofs (disch := first | omega | (simp only [rB]; done) | (simp only [rL] <;> omega) | fail) only [↓rP, rO, Int.reduceAdd, Int.reduceSub, Int.reduceMul, Int.reduceNeg, Int.reduceToNat, Int.reduceLT, Int.reduceLE, Int.reduceEq, Nat.reduceAdd, Nat.reduceMul, Nat.reduceSub, Nat.reduceLT, Nat.reduceLeDiff, Nat.reduceEqDiff, rT, rI]
  generalize hkk : kont _ _ _ _ _ _ _ = kk
  have e := R87b (zb := zb) (s0 := s0) n (by omega) kk c (wcells []) 48 (by omega) (n - 48)
  rw [show n - 48 + 48 = n by omega] at e
  refine e.trans ?_
  subst hkk
  rw [show n - 48 = (n - 49) + 1 by omega, D87L7]
  simp -implicitDefEqProofs (disch := first | omega | (simp only [rB]; done) | (simp only [rL] <;> omega) | fail) only [↓rP, rO, Int.reduceAdd, Int.reduceSub, Int.reduceMul, Int.reduceNeg, Int.reduceToNat, Int.reduceLT, Int.reduceLE, Int.reduceEq, Nat.reduceAdd, Nat.reduceMul, Nat.reduceSub, Nat.reduceLT, Nat.reduceLeDiff, Nat.reduceEqDiff, rT, rI]
  rw [D87K7exit2]
  simp -implicitDefEqProofs (disch := first | omega | (simp only [rB]; done) | (simp only [rL] <;> omega) | fail) only [↓rP, rO, Int.reduceAdd, Int.reduceSub, Int.reduceMul, Int.reduceNeg, Int.reduceToNat, Int.reduceLT, Int.reduceLE, Int.reduceEq, Nat.reduceAdd, Nat.reduceMul, Nat.reduceSub, Nat.reduceLT, Nat.reduceLeDiff, Nat.reduceEqDiff, rT, rI, e2, e3, e4, e5, e6, map_fit_w, map_bare_w]
end
end Go.Proofs.YtnfdepafmmibaaaDoor

/-! SHA-256 in the reference: Sum. Conditions: the message's length is below 2^46. -/
set_option linter.unusedVariables false
set_option linter.unusedSimpArgs false
set_option maxRecDepth 20000
set_option maxHeartbeats 1000000
namespace Go.Proofs.YtnfdepafmmibaaaDoor
open Go
variable {zb : Bool}
theorem x_ones (x : UInt32) : x ^^^ 4294967295 = ~~~ x := by
  apply UInt32.toBitVec_inj.1
  rw [UInt32.toBitVec_xor, UInt32.toBitVec_not]
  show x.toBitVec ^^^ 4294967295#32 = _
  rw [show (4294967295#32 : BitVec 32) = BitVec.allOnes 32 by rfl, BitVec.xor_allOnes]
theorem gl_ref : (Y0 zb).gl 3 = .lptr tab3 0 := rfl
theorem tab_ref : tab3 = kcon.map fun a => DV.v (.int .u32 (a.toNat : Int)) := by kernel_rfl
theorem tab_get (t : Nat) (h : t < 64) : (tab3)[t]? = some (.v (.int .u32 ((kcon.getD t 0).toNat : Int))) := by
  have e : kcon.length = 64 := by kernel_rfl
  rw [tab_ref, List.getElem?_map, List.getD_eq_getElem?_getD, List.getElem?_eq_getElem (by omega)]
  rfl
def Hs.cells (x : Hs) : List AV := [vw x.a, vw x.b, vw x.c, vw x.d, vw x.e, vw x.f, vw x.g, vw x.h]
theorem Hs.cells_eq (x : Hs) : x.cells = x.list.map vw := rfl
section
variable {s0 : St}
abbrev r9st (s0 : St) (R : List AV) (y : Hs) (b : List UInt8) (x : Hs) : St :=
  { blks := [⟨108, 0, R⟩, ⟨101, 0, y.cells⟩, ⟨123, 0, (ws b 64).map vw⟩, ⟨101, 0, x.cells⟩], toks := [] } :: s0
theorem R789 (n : Nat) (hn : 10 ≤ n) (kk : AX → Env → St → Res) (R : List AV) (y : Hs) (b : List UInt8) (M : List UInt8) (at_ : Int) (x : Hs) (t : Nat) : t ≤ 64 → ∀ r,
    lp78_9 (Y0 zb) (acall (X0 zb) n) n 4 0 kk (r + t) (.ptr s0.length 0 0) (.ptr s0.length 1 0) (.list .none M.length (bcells M)) (vi at_) (.ptr s0.length 2 0) (.ptr s0.length 3 0) (vi 0) (r9st s0 R y b x)
    = lp78_9 (Y0 zb) (acall (X0 zb) n) n 4 0 kk r (.ptr s0.length 0 0) (.ptr s0.length 1 0) (.list .none M.length (bcells M)) (vi at_) (.ptr s0.length 2 0) (.ptr s0.length 3 0) (vi t) (r9st s0 R y b (rnds b x t)) := by
  induction t with
  | zero => intro _ r; rfl
  | succ t ih =>
    intro ht r
    have hk := tab_get t (by omega)
    have hw := ws_get b t (by omega)
    have q6 : ∀ x s, acall (X0 zb) n 88 [vw x, vi 6] s = some (vw (rotr x 6), s) := fun x s => F88 (zb := zb) n (by omega) x 6 (by decide) (by decide) s
    have q11 : ∀ x s, acall (X0 zb) n 88 [vw x, vi 11] s = some (vw (rotr x 11), s) := fun x s => F88 (zb := zb) n (by omega) x 11 (by decide) (by decide) s
    have q25 : ∀ x s, acall (X0 zb) n 88 [vw x, vi 25] s = some (vw (rotr x 25), s) := fun x s => F88 (zb := zb) n (by omega) x 25 (by decide) (by decide) s
    have q2 : ∀ x s, acall (X0 zb) n 88 [vw x, vi 2] s = some (vw (rotr x 2), s) := fun x s => F88 (zb := zb) n (by omega) x 2 (by decide) (by decide) s
    have q13 : ∀ x s, acall (X0 zb) n 88 [vw x, vi 13] s = some (vw (rotr x 13), s) := fun x s => F88 (zb := zb) n (by omega) x 13 (by decide) (by decide) s
    have q22 : ∀ x s, acall (X0 zb) n 88 [vw x, vi 22] s = some (vw (rotr x 22), s) := fun x s => F88 (zb := zb) n (by omega) x 22 (by decide) (by decide) s
    have b1 : ∀ a b c d e f g h : UInt32, aBuild (Y0 zb).P 101 [(0, vw a), (1, vw b), (2, vw c), (3, vw d), (4, vw e), (5, vw f), (6, vw g), (7, vw h)] = some (.agg [vw a, vw b, vw c, vw d, vw e, vw f, vw g, vw h]) := fun a b c d e f g h => by kernel_rfl
    rw [show r + (t + 1) = (r + 1) + t by omega, ih (by omega) (r + 1), D78L9, rnds]
    generalize rnds b x t = z
    simp -implicitDefEqProofs (disch := first | omega | (simp only [rB]; done) | (simp only [rL] <;> omega) | fail) only [↓rP, rO, Int.reduceAdd, Int.reduceSub, Int.reduceMul, Int.reduceNeg, Int.reduceToNat, Int.reduceLT, Int.reduceLE, Int.reduceEq, Nat.reduceAdd, Nat.reduceMul, Nat.reduceSub, Nat.reduceLT, Nat.reduceLeDiff, Nat.reduceEqDiff, rT, rI, Hs.cells, gl_ref, hk, DV.av, hw, q6, q11, q25, q2, q13, q22, w_xor, w_and, w_add, x_ones, b1]
    simp only [rnd, Int.natCast_add]
    rfl
abbrev r4st (s0 : St) (R : List AV) (y : Hs) : St :=
  { blks := [⟨108, 0, R⟩, ⟨101, 0, y.cells⟩], toks := [] } :: s0
theorem R784 (n : Nat) (hn : 300 ≤ n) (kk : AX → Env → St → Res) (R : List AV) (M : List UInt8) (hM : M.length < 2 ^ 50) (K : Nat) (hK : M.length = 64 * K) (y : Hs) (i : Nat) : i ≤ K → ∀ r,
    lp78_4 (Y0 zb) (acall (X0 zb) n) n 2 0 kk (r + i) (.ptr s0.length 0 0) (.ptr s0.length 1 0) (.list .none M.length (bcells M)) (vi 0) (r4st s0 R y)
    = lp78_4 (Y0 zb) (acall (X0 zb) n) n 2 0 kk r (.ptr s0.length 0 0) (.ptr s0.length 1 0) (.list .none M.length (bcells M)) (vi (64 * i : Nat)) (r4st s0 R (absorb i y M)) := by
  induction i with
  | zero => intro _ r; rfl
  | succ i ih =>
    intro hi r
    have hbl := bcells_len M
    have hc : ((M.drop (64 * i)).take 64).length = 64 := by rw [List.length_take, List.length_drop]; omega
    have e1 : ((bcells M).drop (64 * i)).take 64 = bcells ((M.drop (64 * i)).take 64) := by rw [bcells_drop, bcells_take]
    have t1 : ((64 * i : Nat) : Int).toNat = 64 * i := by omega
    have t2 : (((64 * i : Nat) : Int) + 64).toNat = 64 * i + 64 := by omega
    have ec : absorb (i + 1) y M = comp (absorb i y M) ((M.drop (64 * i)).take 64) := rfl
    have ea : (((64 * (i + 1) : Nat)) : Int) = ((64 * i : Nat) : Int) + 64 := by omega
    rw [show r + (i + 1) = (r + 1) + i by omega, ih (by omega) (r + 1), D78L4, ec, ea]
    generalize hB : (M.drop (64 * i)).take 64 = B at *
    generalize absorb i y M = z
    generalize hA : ((64 * i : Nat) : Int) = A at *
    have hw : ∀ s, acall (X0 zb) n 87 [.list .none 64 (bcells B)] s = some (.agg ((ws B 64).map vw), s) := fun s => F87 (zb := zb) (s0 := s) n (by omega) .none (.inl rfl) B hc
    have hwl : ((ws B 64).map vw).length = 64 := by rw [List.length_map, ws_len]
    have sa : setAt (List.replicate 64 (AV.v (.int .u32 0))) 0 ((ws B 64).map vw) = (ws B 64).map vw := setAt_all _ _ (by rw [hwl]; simp)
    have e64 : 64 * i + 64 - 64 * i = 64 := by omega
    have ezc : z.cells = [vw z.a, vw z.b, vw z.c, vw z.d, vw z.e, vw z.f, vw z.g, vw z.h] := rfl
    have r8 : List.replicate 8 (AV.v (.int .u32 0)) = [vw 0, vw 0, vw 0, vw 0, vw 0, vw 0, vw 0, vw 0] := rfl
    simp -implicitDefEqProofs (disch := first | omega | (simp only [rB]; done) | exact plain_rep _ _ | exact map_plain_w _ | exact map_plain_y _ | (apply plain_cons; repeat (first | exact plain_nil | apply plain_cons)) | (simp only [rL] <;> omega) | fail) only [↓rP, rO, Int.reduceAdd, Int.reduceSub, Int.reduceMul, Int.reduceNeg, Int.reduceToNat, Int.reduceLT, Int.reduceLE, Int.reduceEq, Nat.reduceAdd, Nat.reduceMul, Nat.reduceSub, Nat.reduceLT, Nat.reduceLeDiff, Nat.reduceEqDiff, rT, rI, t1, t2, e1, e64, hw, hwl, sa, map_fit_w, ezc, r8]
    generalize hkk : kont _ _ _ _ _ _ _ = k9
    have e9 := R789 (zb := zb) (s0 := s0) n (by omega) k9 R z B M A z 64 (by omega) (n - 64)
    rw [show n - 64 + 64 = n by omega] at e9
    refine e9.trans ?_
    subst hkk
    rw [show n - 64 = (n - 65) + 1 by omega, D78L9]
    simp -implicitDefEqProofs (disch := first | omega | (simp only [rB]; done) | (simp only [rL] <;> omega) | fail) only [↓rP, rO, Int.reduceAdd, Int.reduceSub, Int.reduceMul, Int.reduceNeg, Int.reduceToNat, Int.reduceLT, Int.reduceLE, Int.reduceEq, Nat.reduceAdd, Nat.reduceMul, Nat.reduceSub, Nat.reduceLT, Nat.reduceLeDiff, Nat.reduceEqDiff, rT, rI]
    rw [D78K9exit2]
    simp -implicitDefEqProofs (disch := first | omega | (simp only [rB]; done) | (simp only [rL] <;> omega) | fail) only [↓rP, rO, Int.reduceAdd, Int.reduceSub, Int.reduceMul, Int.reduceNeg, Int.reduceToNat, Int.reduceLT, Int.reduceLE, Int.reduceEq, Nat.reduceAdd, Nat.reduceMul, Nat.reduceSub, Nat.reduceLT, Nat.reduceLeDiff, Nat.reduceEqDiff, rT, rI]
    rw [show n = (n - 9) + 9 by omega]
    simp only [comp]
    generalize rnds B z 64 = x
    have exc : x.cells = [vw x.a, vw x.b, vw x.c, vw x.d, vw x.e, vw x.f, vw x.g, vw x.h] := rfl
    simp only [r9st, ezc, exc]
    rw [D78L15]
    simp -implicitDefEqProofs (disch := first | omega | (simp only [rB]; done) | (simp only [rL] <;> omega) | fail) only [↓rP, rO, Int.reduceAdd, Int.reduceSub, Int.reduceMul, Int.reduceNeg, Int.reduceToNat, Int.reduceLT, Int.reduceLE, Int.reduceEq, Nat.reduceAdd, Nat.reduceMul, Nat.reduceSub, Nat.reduceLT, Nat.reduceLeDiff, Nat.reduceEqDiff, rT, rI, w_add]
    rw [D78L15]
    simp -implicitDefEqProofs (disch := first | omega | (simp only [rB]; done) | (simp only [rL] <;> omega) | fail) only [↓rP, rO, Int.reduceAdd, Int.reduceSub, Int.reduceMul, Int.reduceNeg, Int.reduceToNat, Int.reduceLT, Int.reduceLE, Int.reduceEq, Nat.reduceAdd, Nat.reduceMul, Nat.reduceSub, Nat.reduceLT, Nat.reduceLeDiff, Nat.reduceEqDiff, rT, rI, w_add]
    rw [D78L15]
    simp -implicitDefEqProofs (disch := first | omega | (simp only [rB]; done) | (simp only [rL] <;> omega) | fail) only [↓rP, rO, Int.reduceAdd, Int.reduceSub, Int.reduceMul, Int.reduceNeg, Int.reduceToNat, Int.reduceLT, Int.reduceLE, Int.reduceEq, Nat.reduceAdd, Nat.reduceMul, Nat.reduceSub, Nat.reduceLT, Nat.reduceLeDiff, Nat.reduceEqDiff, rT, rI, w_add]
    rw [D78L15]
    simp -implicitDefEqProofs (disch := first | omega | (simp only [rB]; done) | (simp only [rL] <;> omega) | fail) only [↓rP, rO, Int.reduceAdd, Int.reduceSub, Int.reduceMul, Int.reduceNeg, Int.reduceToNat, Int.reduceLT, Int.reduceLE, Int.reduceEq, Nat.reduceAdd, Nat.reduceMul, Nat.reduceSub, Nat.reduceLT, Nat.reduceLeDiff, Nat.reduceEqDiff, rT, rI, w_add]
    rw [D78L15]
    simp -implicitDefEqProofs (disch := first | omega | (simp only [rB]; done) | (simp only [rL] <;> omega) | fail) only [↓rP, rO, Int.reduceAdd, Int.reduceSub, Int.reduceMul, Int.reduceNeg, Int.reduceToNat, Int.reduceLT, Int.reduceLE, Int.reduceEq, Nat.reduceAdd, Nat.reduceMul, Nat.reduceSub, Nat.reduceLT, Nat.reduceLeDiff, Nat.reduceEqDiff, rT, rI, w_add]
    rw [D78L15]
    simp -implicitDefEqProofs (disch := first | omega | (simp only [rB]; done) | (simp only [rL] <;> omega) | fail) only [↓rP, rO, Int.reduceAdd, Int.reduceSub, Int.reduceMul, Int.reduceNeg, Int.reduceToNat, Int.reduceLT, Int.reduceLE, Int.reduceEq, Nat.reduceAdd, Nat.reduceMul, Nat.reduceSub, Nat.reduceLT, Nat.reduceLeDiff, Nat.reduceEqDiff, rT, rI, w_add]
    rw [D78L15]
    simp -implicitDefEqProofs (disch := first | omega | (simp only [rB]; done) | (simp only [rL] <;> omega) | fail) only [↓rP, rO, Int.reduceAdd, Int.reduceSub, Int.reduceMul, Int.reduceNeg, Int.reduceToNat, Int.reduceLT, Int.reduceLE, Int.reduceEq, Nat.reduceAdd, Nat.reduceMul, Nat.reduceSub, Nat.reduceLT, Nat.reduceLeDiff, Nat.reduceEqDiff, rT, rI, w_add]
    rw [D78L15]
    simp -implicitDefEqProofs (disch := first | omega | (simp only [rB]; done) | (simp only [rL] <;> omega) | fail) only [↓rP, rO, Int.reduceAdd, Int.reduceSub, Int.reduceMul, Int.reduceNeg, Int.reduceToNat, Int.reduceLT, Int.reduceLE, Int.reduceEq, Nat.reduceAdd, Nat.reduceMul, Nat.reduceSub, Nat.reduceLT, Nat.reduceLeDiff, Nat.reduceEqDiff, rT, rI, w_add]
    rw [D78L15]
    simp -implicitDefEqProofs (disch := first | omega | (simp only [rB]; done) | (simp only [rL] <;> omega) | fail) only [↓rP, rO, Int.reduceAdd, Int.reduceSub, Int.reduceMul, Int.reduceNeg, Int.reduceToNat, Int.reduceLT, Int.reduceLE, Int.reduceEq, Nat.reduceAdd, Nat.reduceMul, Nat.reduceSub, Nat.reduceLT, Nat.reduceLeDiff, Nat.reduceEqDiff, rT, rI, w_add]
    rw [D78K15exit4]
    simp -implicitDefEqProofs (disch := first | omega | (simp only [rB]; done) | (simp only [rL] <;> omega) | fail) only [↓rP, rO, Int.reduceAdd, Int.reduceSub, Int.reduceMul, Int.reduceNeg, Int.reduceToNat, Int.reduceLT, Int.reduceLE, Int.reduceEq, Nat.reduceAdd, Nat.reduceMul, Nat.reduceSub, Nat.reduceLT, Nat.reduceLeDiff, Nat.reduceEqDiff, rT, rI, Hs.add, Hs.cells, r4st]
theorem R7820 (n : Nat) (kk : AX → Env → St → Res) (R : List AV) (z : Hs) (i : Nat) : i ≤ 32 → ∀ r,
    lp78_20 (Y0 zb) (acall (X0 zb) n) n 3 0 kk (r + i) (.ptr s0.length 0 0) (.ptr s0.length 1 0) (.ptr s0.length 2 0) (vi 0) ({ blks := [⟨108, 0, R⟩, ⟨101, 0, z.cells⟩, ⟨108, 0, hcells z 0⟩], toks := [] } :: s0)
    = lp78_20 (Y0 zb) (acall (X0 zb) n) n 3 0 kk r (.ptr s0.length 0 0) (.ptr s0.length 1 0) (.ptr s0.length 2 0) (vi i) ({ blks := [⟨108, 0, R⟩, ⟨101, 0, z.cells⟩, ⟨108, 0, hcells z i⟩], toks := [] } :: s0) := by
  induction i with
  | zero => intro _ r; rfl
  | succ i ih =>
    intro hi r
    have hz : z.list.length = 8 := rfl
    have hw : z.cells[((i : Int) / 4).toNat]? = some (vw (z.list.getD (i / 4) 0)) := by
      rw [show ((i : Int) / 4).toNat = i / 4 by omega, Hs.cells_eq, List.getElem?_map, List.getD_eq_getElem?_getD, List.getElem?_eq_getElem (by omega)]
      rfl
    have e1 : (24 : Int) - 8 * ((i : Int) % 4) = ((24 - 8 * (i % 4) : Nat) : Int) := by omega
    have hs : (hcells z i).set i (vy (z.list.getD (i / 4) 0 >>> UInt32.ofNat (24 - 8 * (i % 4))).toUInt8) = hcells z (i + 1) := hcells_set z i (by omega)
    have hcl := hcells_len z i (by omega)
    rw [show r + (i + 1) = (r + 1) + i by omega, ih (by omega) (r + 1), D78L20]
    simp -implicitDefEqProofs (disch := first | omega | (simp only [rB]; done) | (simp only [rL] <;> omega) | fail) only [↓rP, rO, Int.reduceAdd, Int.reduceSub, Int.reduceMul, Int.reduceNeg, Int.reduceToNat, Int.reduceLT, Int.reduceLE, Int.reduceEq, Nat.reduceAdd, Nat.reduceMul, Nat.reduceSub, Nat.reduceLT, Nat.reduceLeDiff, Nat.reduceEqDiff, rT, rI, hw, e1, w_shr, conv_w8, hcl, hs]
    rfl
theorem F78 (n : Nat) (hn : 2 ^ 47 ≤ n) (tag : Tag) (htag : tag = .none ∨ tag = .full) (m : List UInt8) (hm : m.length < 2 ^ 46) :
    acall (X0 zb) n 78 [.list tag m.length (bcells m)] s0 = some (.agg ((sha m).map vy), s0) := by
  obtain ⟨n, rfl⟩ : ∃ k, n = k + 1 := ⟨n - 1, by omega⟩
  have hz := padz_end m.length
  have hz2 := padz_lt m.length
  have hpl := pad_len m.length
  have hp : ∀ s, acall (X0 zb) n 86 [.list tag m.length (bcells m)] s = some (.list .none (m ++ pad m.length).length (bcells (m ++ pad m.length)), s) := fun s => F86 (zb := zb) (s0 := s) n (by omega) tag htag m hm
  have hsha : sha m = hbytes (absorb ((m ++ pad m.length).length / 64) iv (m ++ pad m.length)) := rfl
  have hL : (m ++ pad m.length).length = m.length + (padz m.length + 9) := by rw [List.length_append, hpl]
  have b1 : aBuild (Y0 zb).P 101 [(0, (vw 1779033703)), (1, (vw 3144134277)), (2, (vw 1013904242)), (3, (vw 2773480762)), (4, (vw 1359893119)), (5, (vw 2600822924)), (6, (vw 528734635)), (7, (vw 1541459225))] = some (.agg (iv.list.map vw)) := by kernel_rfl
  have sa : setAt (List.replicate 8 (AV.v (.int .u32 0))) 0 (iv.list.map vw) = iv.cells := rfl
  have il : (iv.list.map vw).length = 8 := rfl
  rw [E78, D78]
  simp -implicitDefEqProofs (disch := first | omega | (simp only [rB]; done) | exact plain_rep _ _ | exact map_plain_w _ | exact map_plain_y _ | (apply plain_cons; repeat (first | exact plain_nil | apply plain_cons)) | (simp only [rL] <;> omega) | fail) only [↓rP, rO, Int.reduceAdd, Int.reduceSub, Int.reduceMul, Int.reduceNeg, Int.reduceToNat, Int.reduceLT, Int.reduceLE, Int.reduceEq, Nat.reduceAdd, Nat.reduceMul, Nat.reduceSub, Nat.reduceLT, Nat.reduceLeDiff, Nat.reduceEqDiff, rT, rI, b1, sa, il, map_fit_w, hp, List.length_replicate]
  generalize hM : m ++ pad m.length = M at *
  generalize hkk : kont _ _ _ _ _ _ _ = kk
  have e := R784 (zb := zb) (s0 := s0) n (by omega) kk (List.replicate 32 (AV.v (.int .u8 0))) M (by omega) (M.length / 64) (by omega) iv (M.length / 64) (Nat.le_refl _) (n - M.length / 64)
  rw [show n - M.length / 64 + M.length / 64 = n by omega, show 64 * (M.length / 64) = M.length by omega] at e
  refine e.trans ?_
  subst hkk
  rw [show n - M.length / 64 = (n - M.length / 64 - 1) + 1 by omega, D78L4]
  simp -implicitDefEqProofs (disch := first | omega | (simp only [rB]; done) | (simp only [rL] <;> omega) | fail) only [↓rP, rO, Int.reduceAdd, Int.reduceSub, Int.reduceMul, Int.reduceNeg, Int.reduceToNat, Int.reduceLT, Int.reduceLE, Int.reduceEq, Nat.reduceAdd, Nat.reduceMul, Nat.reduceSub, Nat.reduceLT, Nat.reduceLeDiff, Nat.reduceEqDiff, rT, rI]
  rw [D78K4exit0]
  generalize absorb (M.length / 64) iv M = z at *
  have z32 : List.replicate 32 (AV.v (.int .u8 0)) = hcells z 0 := rfl
  simp -implicitDefEqProofs (disch := first | omega | (simp only [rB]; done) | exact plain_rep _ _ | exact map_plain_w _ | exact map_plain_y _ | (apply plain_cons; repeat (first | exact plain_nil | apply plain_cons)) | (simp only [rL] <;> omega) | fail) only [↓rP, rO, Int.reduceAdd, Int.reduceSub, Int.reduceMul, Int.reduceNeg, Int.reduceToNat, Int.reduceLT, Int.reduceLE, Int.reduceEq, Nat.reduceAdd, Nat.reduceMul, Nat.reduceSub, Nat.reduceLT, Nat.reduceLeDiff, Nat.reduceEqDiff, rT, rI]
  generalize hkk : kont _ _ _ _ _ _ _ = kk
  have e := R7820 (zb := zb) (s0 := s0) n kk (List.replicate 32 (AV.v (.int .u8 0))) z 32 (by omega) (n - 32)
  rw [show n - 32 + 32 = n by omega] at e
  refine e.trans ?_
  subst hkk
  rw [show n - 32 = (n - 33) + 1 by omega, D78L20]
  simp -implicitDefEqProofs (disch := first | omega | (simp only [rB]; done) | (simp only [rL] <;> omega) | fail) only [↓rP, rO, Int.reduceAdd, Int.reduceSub, Int.reduceMul, Int.reduceNeg, Int.reduceToNat, Int.reduceLT, Int.reduceLE, Int.reduceEq, Nat.reduceAdd, Nat.reduceMul, Nat.reduceSub, Nat.reduceLT, Nat.reduceLeDiff, Nat.reduceEqDiff, rT, rI]
  rw [D78K20exit6]
  have hz : hcells z 32 = (sha m).map vy := by
    rw [hsha, hbytes_eq, hcells]
    simp
  have hs32 : ((sha m).map vy).length = 32 := by rw [List.length_map, sha_len]
  have sa2 : setAt (List.replicate 32 (AV.v (.int .u8 0))) 0 ((sha m).map vy) = (sha m).map vy := setAt_all _ _ (by rw [hs32]; simp)
  have tk2 : ((sha m).map vy).take 32 = (sha m).map vy := List.take_of_length_le (by omega)
  simp -implicitDefEqProofs (disch := first | omega | (simp only [rB]; done) | (simp only [rL] <;> omega) | fail) only [↓rP, rO, Int.reduceAdd, Int.reduceSub, Int.reduceMul, Int.reduceNeg, Int.reduceToNat, Int.reduceLT, Int.reduceLE, Int.reduceEq, Nat.reduceAdd, Nat.reduceMul, Nat.reduceSub, Nat.reduceLT, Nat.reduceLeDiff, Nat.reduceEqDiff, rT, rI, hz, hs32, sa2, tk2, map_fit_y, map_bare_y, List.length_replicate]
end
end Go.Proofs.YtnfdepafmmibaaaDoor

/-! Digests in the reference: Of is SHA-256 of the parts. Conditions: the input's length is below 2^46. -/
set_option linter.unusedVariables false
set_option linter.unusedSimpArgs false
set_option maxRecDepth 20000
set_option maxHeartbeats 1000000
namespace Go.Proofs.YtnfdepafmmibaaaDoor
open Go
variable {zb : Bool}
inductive Gr1 (d : Nat) : Tag → List Nat → Nat → Prop
  | full (n : Nat) : Gr1 d .full [0] n
  | own (n : Nat) : Gr1 d (.own d 1) [0, n] n
section
variable {s0 : St}
theorem R66 (n : Nat) (hn : 1000 ≤ n) (kk : AX → Env → St → Res) (nt : Nat) (hnt : 1000000 ≤ nt) (tag : Tag) (htag : tag = .none ∨ tag = .full) (ps : List (List UInt8)) (hps : ∀ l ∈ ps, l.length < 2 ^ 40) (hpl : ps.length < 2 ^ 16) (p : List UInt8) (hT : p.length + (partsIn ps).length < 2 ^ 46) (i : Nat) : i ≤ ps.length → ∀ (r : Nat),
    ∃ tg T, Gr1 s0.length tg T (p ++ partsIn (ps.take i)).length ∧
    lp66_3 (Y0 zb) (acall (X0 zb) n) n 0 nt kk (r + i) (.list tag ps.length (scells ps)) (.list .full p.length (bcells p)) (vi 0) ({ blks := [], toks := [0] } :: s0)
    = lp66_3 (Y0 zb) (acall (X0 zb) n) n 0 nt kk r (.list tag ps.length (scells ps)) (.list tg (p ++ partsIn (ps.take i)).length (bcells (p ++ partsIn (ps.take i)))) (vi i) ({ blks := [], toks := T } :: s0) := by
  induction i with
  | zero => intro _ r; exact ⟨.full, [0], .full _, by simp [partsIn]⟩
  | succ i ih =>
    intro hi r
    obtain ⟨tg, T, g1, g2⟩ := ih (by omega) (r + 1)
    obtain ⟨l, hL⟩ : ∃ l, ps[i]? = some l := ⟨ps[i], List.getElem?_eq_getElem (by omega)⟩
    have hll : l.length < 2 ^ 40 := hps l (List.mem_of_getElem? hL)
    have hwl := wireBytes_len l hll
    have hwp : 0 < (wireBytes l).length := by
      have := uvar_len (l.length * 2) (by omega)
      rw [wireBytes, List.length_append, wireInt_nat]; omega
    have hle : (partsIn (ps.take (i + 1))).length ≤ (partsIn ps).length := by
      have : partsIn ps = partsIn (ps.take (i + 1)) ++ partsIn (ps.drop (i + 1)) := by
        rw [partsIn, partsIn, partsIn, ← List.flatMap_append, List.take_append_drop]
      rw [this, List.length_append]; omega
    rw [partsIn_succ ps i l hL, List.length_append] at hle
    rw [partsIn_succ ps i l hL, ← List.append_assoc]
    rw [show r + (i + 1) = r + 1 + i by omega, g2]
    have hpp : (p ++ partsIn (ps.take i)).length = p.length + (partsIn (ps.take i)).length := List.length_append
    generalize p ++ partsIn (ps.take i) = q at *
    have hql := bcells_len q
    have hwb := bcells_len (wireBytes l)
    have hsl := scells_len ps
    have hg := scells_get ps i l hL
    have htk : ∀ a b : Nat, [a, b].take nt = [a, b] := fun a b => List.take_of_length_le (by simp; omega)
    refine ⟨.own s0.length 1, [0, (q ++ wireBytes l).length], .own _, ?_⟩
    rw [D66L3]
    have hapl : (q ++ wireBytes l).length = q.length + (wireBytes l).length := List.length_append
    rcases htag with rfl | rfl <;> cases g1 <;> (simp -implicitDefEqProofs (disch := first | omega | (simp only [rB]; done) | (simp only [rL] <;> omega) | fail) only [↓rP, rO, Int.reduceAdd, Int.reduceSub, Int.reduceMul, Int.reduceNeg, Int.reduceToNat, Int.reduceLT, Int.reduceLE, Int.reduceEq, Nat.reduceAdd, Nat.reduceMul, Nat.reduceSub, Nat.reduceLT, Nat.reduceLeDiff, Nat.reduceEqDiff, rT, rI, hg, DV.av, F79, htk, bcells_app, hapl]; rfl)
theorem F66 (n : Nat) (hn : 2 ^ 20 ≤ n) (t : Int) (tag : Tag) (htag : tag = .none ∨ tag = .full) (ps : List (List UInt8)) (hps : ∀ l ∈ ps, l.length < 2 ^ 40) (hpl : ps.length < 2 ^ 16) (hT : (hashIn t ps).length < 2 ^ 46) :
    ∃ tg, (tg = .none ∨ tg = .full) ∧ acall (X0 zb) n 66 [vi t, .list tag ps.length (scells ps)] s0 = some (.list tg (hashIn t ps).length (bcells (hashIn t ps)), s0) := by
  obtain ⟨n, rfl⟩ : ∃ m, n = m + 1 := ⟨n - 1, by omega⟩
  have hI : [tagByte t] ++ partsIn ps = hashIn t ps := rfl
  have hIl : (hashIn t ps).length = 1 + (partsIn ps).length := by rw [← hI, List.length_append]; rfl
  rw [E66, D66]
  simp -implicitDefEqProofs (disch := first | omega | (simp only [rB]; done) | (simp only [rL] <;> omega) | fail) only [↓rP, rO, Int.reduceAdd, Int.reduceSub, Int.reduceMul, Int.reduceNeg, Int.reduceToNat, Int.reduceLT, Int.reduceLE, Int.reduceEq, Nat.reduceAdd, Nat.reduceMul, Nat.reduceSub, Nat.reduceLT, Nat.reduceLeDiff, Nat.reduceEqDiff, rT, rI, tag_conv]
  generalize hkk : kont _ _ _ _ _ _ _ = kk
  obtain ⟨tg, T, g1, g2⟩ := R66 (zb := zb) (s0 := s0) n (by omega) kk 1000001 (by omega) tag htag ps hps hpl [tagByte t] (by simp only [List.length_singleton]; omega) ps.length (Nat.le_refl _) (n - ps.length)
  rw [List.take_length, hI] at g1 g2
  rw [show n - ps.length + ps.length = n by omega] at g2
  have g3 := g2
  subst hkk
  have hfin : ∀ tg T, Gr1 s0.length tg T (hashIn t ps).length → ∃ t2, (t2 = .none ∨ t2 = .full) ∧ lp66_3 (Y0 zb) (acall (X0 zb) n) n 0 1000001 (kont (cxOf (Y0 zb)) (acall (X0 zb) n) n (liveT 66) (sub (bodyOf Tryd.f66) []) [1, 1, 0, 1, 0] (aEnd (cxOf (Y0 zb)) 66 (adef (X0 zb) (acall (X0 zb) n) n) Tryd.f66.results.toList)) (n - ps.length)
      (.list tag ps.length (scells ps)) (.list tg (hashIn t ps).length (bcells (hashIn t ps))) (vi ps.length) ({ blks := [], toks := T } :: s0) = some (.list t2 (hashIn t ps).length (bcells (hashIn t ps)), s0) := by
    intro tg T g
    cases g with
    | full =>
      refine ⟨.full, .inr rfl, ?_⟩
      rw [show n - ps.length = (n - ps.length - 1) + 1 by omega, D66L3]
      rcases htag with rfl | rfl
      · simp -implicitDefEqProofs (disch := first | omega | (simp only [rB]; done) | (simp only [rL] <;> omega) | fail) only [↓rP, rO, Int.reduceAdd, Int.reduceSub, Int.reduceMul, Int.reduceNeg, Int.reduceToNat, Int.reduceLT, Int.reduceLE, Int.reduceEq, Nat.reduceAdd, Nat.reduceMul, Nat.reduceSub, Nat.reduceLT, Nat.reduceLeDiff, Nat.reduceEqDiff, rT, rI]
        rw [D66K3exit0]
        simp -implicitDefEqProofs (disch := first | omega | (simp only [rB]; done) | (simp only [rL] <;> omega) | fail) only [↓rP, rO, Int.reduceAdd, Int.reduceSub, Int.reduceMul, Int.reduceNeg, Int.reduceToNat, Int.reduceLT, Int.reduceLE, Int.reduceEq, Nat.reduceAdd, Nat.reduceMul, Nat.reduceSub, Nat.reduceLT, Nat.reduceLeDiff, Nat.reduceEqDiff, rT, rI]
      · simp -implicitDefEqProofs (disch := first | omega | (simp only [rB]; done) | (simp only [rL] <;> omega) | fail) only [↓rP, rO, Int.reduceAdd, Int.reduceSub, Int.reduceMul, Int.reduceNeg, Int.reduceToNat, Int.reduceLT, Int.reduceLE, Int.reduceEq, Nat.reduceAdd, Nat.reduceMul, Nat.reduceSub, Nat.reduceLT, Nat.reduceLeDiff, Nat.reduceEqDiff, rT, rI]
        rw [D66K3exit0]
        simp -implicitDefEqProofs (disch := first | omega | (simp only [rB]; done) | (simp only [rL] <;> omega) | fail) only [↓rP, rO, Int.reduceAdd, Int.reduceSub, Int.reduceMul, Int.reduceNeg, Int.reduceToNat, Int.reduceLT, Int.reduceLE, Int.reduceEq, Nat.reduceAdd, Nat.reduceMul, Nat.reduceSub, Nat.reduceLT, Nat.reduceLeDiff, Nat.reduceEqDiff, rT, rI]
    | own =>
      refine ⟨.none, .inl rfl, ?_⟩
      rw [show n - ps.length = (n - ps.length - 1) + 1 by omega, D66L3]
      rcases htag with rfl | rfl
      · simp -implicitDefEqProofs (disch := first | omega | (simp only [rB]; done) | (simp only [rL] <;> omega) | fail) only [↓rP, rO, Int.reduceAdd, Int.reduceSub, Int.reduceMul, Int.reduceNeg, Int.reduceToNat, Int.reduceLT, Int.reduceLE, Int.reduceEq, Nat.reduceAdd, Nat.reduceMul, Nat.reduceSub, Nat.reduceLT, Nat.reduceLeDiff, Nat.reduceEqDiff, rT, rI]
        rw [D66K3exit0]
        simp -implicitDefEqProofs (disch := first | omega | (simp only [rB]; done) | (simp only [rL] <;> omega) | fail) only [↓rP, rO, Int.reduceAdd, Int.reduceSub, Int.reduceMul, Int.reduceNeg, Int.reduceToNat, Int.reduceLT, Int.reduceLE, Int.reduceEq, Nat.reduceAdd, Nat.reduceMul, Nat.reduceSub, Nat.reduceLT, Nat.reduceLeDiff, Nat.reduceEqDiff, rT, rI, outV_own]
      · simp -implicitDefEqProofs (disch := first | omega | (simp only [rB]; done) | (simp only [rL] <;> omega) | fail) only [↓rP, rO, Int.reduceAdd, Int.reduceSub, Int.reduceMul, Int.reduceNeg, Int.reduceToNat, Int.reduceLT, Int.reduceLE, Int.reduceEq, Nat.reduceAdd, Nat.reduceMul, Nat.reduceSub, Nat.reduceLT, Nat.reduceLeDiff, Nat.reduceEqDiff, rT, rI]
        rw [D66K3exit0]
        simp -implicitDefEqProofs (disch := first | omega | (simp only [rB]; done) | (simp only [rL] <;> omega) | fail) only [↓rP, rO, Int.reduceAdd, Int.reduceSub, Int.reduceMul, Int.reduceNeg, Int.reduceToNat, Int.reduceLT, Int.reduceLE, Int.reduceEq, Nat.reduceAdd, Nat.reduceMul, Nat.reduceSub, Nat.reduceLT, Nat.reduceLeDiff, Nat.reduceEqDiff, rT, rI, outV_own]
  obtain ⟨t2, h2, h3⟩ := hfin tg T g1
  exact ⟨t2, h2, g3.trans h3⟩
def dcl (l : List UInt8) (i : Nat) : List AV := (l.take i).map vy ++ List.replicate (16 - i) (vy 0)
theorem dcl_len (l : List UInt8) (i : Nat) (hl : 16 ≤ l.length) (h : i ≤ 16) : (dcl l i).length = 16 := by simp [dcl]; omega
theorem dcl_set (l : List UInt8) (i : Nat) (hl : 16 ≤ l.length) (h : i < 16) : (dcl l i).set i (vy (l.getD i 0)) = dcl l (i + 1) := by
  have e : ((l.take i).map vy).length = i := by simp; omega
  rw [dcl, List.set_append_right _ _ (by omega), e, Nat.sub_self]
  obtain ⟨r, hr⟩ : ∃ r, 16 - i = r + 1 := ⟨16 - i - 1, by omega⟩
  rw [hr, List.replicate_succ, List.set_cons_zero, dcl, List.take_add_one, List.getElem?_eq_getElem (by omega)]
  have : 16 - (i + 1) = r := by omega
  rw [this, List.getD_eq_getElem?_getD, List.getElem?_eq_getElem (by omega)]
  simp only [Option.toList_some, List.map_append, List.map_cons, List.map_nil, List.append_assoc, List.singleton_append, Option.getD_some]
theorem R65 (n : Nat) (kk : AX → Env → St → Res) (R : List AV) (l : List UInt8) (hl : l.length = 32) (i : Nat) : i ≤ 16 → ∀ r,
    lp65_4 (Y0 zb) (acall (X0 zb) n) n 3 0 kk (r + i) (.ptr s0.length 0 0) (.ptr s0.length 1 0) (.ptr s0.length 2 0) (vi 0) ({ blks := [⟨31, 0, R⟩, ⟨108, 0, l.map vy⟩, ⟨31, 0, dcl l 0⟩], toks := [] } :: s0)
    = lp65_4 (Y0 zb) (acall (X0 zb) n) n 3 0 kk r (.ptr s0.length 0 0) (.ptr s0.length 1 0) (.ptr s0.length 2 0) (vi i) ({ blks := [⟨31, 0, R⟩, ⟨108, 0, l.map vy⟩, ⟨31, 0, dcl l i⟩], toks := [] } :: s0) := by
  induction i with
  | zero => intro _ r; rfl
  | succ i ih =>
    intro hi r
    have hg : (l.map vy)[i]? = some (vy (l.getD i 0)) := by
      rw [List.getElem?_map, List.getD_eq_getElem?_getD, List.getElem?_eq_getElem (by omega)]; rfl
    have hs := dcl_set l i (by omega) (by omega)
    have hcl := dcl_len l i (by omega) (by omega)
    rw [show r + (i + 1) = (r + 1) + i by omega, ih (by omega) (r + 1), D65L4]
    simp -implicitDefEqProofs (disch := first | omega | (simp only [rB]; done) | (simp only [rL] <;> omega) | fail) only [↓rP, rO, Int.reduceAdd, Int.reduceSub, Int.reduceMul, Int.reduceNeg, Int.reduceToNat, Int.reduceLT, Int.reduceLE, Int.reduceEq, Nat.reduceAdd, Nat.reduceMul, Nat.reduceSub, Nat.reduceLT, Nat.reduceLeDiff, Nat.reduceEqDiff, rT, rI, hg, hs, hcl]
    rfl
theorem F65 (n : Nat) (hn : 2 ^ 48 ≤ n) (tag : Tag) (htag : tag = .none ∨ tag = .full) (m : List UInt8) (hm : m.length < 2 ^ 46) :
    acall (X0 zb) n 65 [.list tag m.length (bcells m)] s0 = some (.agg (((sha m).take 16).map vy), s0) := by
  obtain ⟨n, rfl⟩ : ∃ k, n = k + 1 := ⟨n - 1, by omega⟩
  have hS : ∀ s, acall (X0 zb) n 78 [.list tag m.length (bcells m)] s = some (.agg ((sha m).map vy), s) := fun s => F78 (zb := zb) (s0 := s) n (by omega) tag htag m hm
  have hl := sha_len m
  have hs32 : ((sha m).map vy).length = 32 := by rw [List.length_map, sha_len]
  have sa2 : setAt (List.replicate 32 (AV.v (.int .u8 0))) 0 ((sha m).map vy) = (sha m).map vy := setAt_all _ _ (by rw [hs32]; simp)
  have z16 : List.replicate 16 (AV.v (.int .u8 0)) = dcl (sha m) 0 := rfl
  have bd : aBuild (Y0 zb).P 31 [] = some (.agg (List.replicate 16 (AV.v (.int .u8 0)))) := by kernel_rfl
  have sf : ∀ d k t, (List.replicate 16 (AV.v (.int .u8 0))).map (fit d k t) = List.replicate 16 (AV.v (.int .u8 0)) := fun d k t => fit_plain d k t (plain_rep _ _)
  have s16 : setAt (List.replicate 16 (AV.v (.int .u8 0))) 0 (List.replicate 16 (AV.v (.int .u8 0))) = List.replicate 16 (AV.v (.int .u8 0)) := setAt_all _ _ rfl
  rw [E65, D65]
  simp -implicitDefEqProofs (disch := first | omega | (simp only [rB]; done) | exact plain_rep _ _ | exact map_plain_w _ | exact map_plain_y _ | (apply plain_cons; repeat (first | exact plain_nil | apply plain_cons)) | (simp only [rL] <;> omega) | fail) only [↓rP, rO, Int.reduceAdd, Int.reduceSub, Int.reduceMul, Int.reduceNeg, Int.reduceToNat, Int.reduceLT, Int.reduceLE, Int.reduceEq, Nat.reduceAdd, Nat.reduceMul, Nat.reduceSub, Nat.reduceLT, Nat.reduceLeDiff, Nat.reduceEqDiff, rT, rI, hS, hs32, sa2, map_fit_y, bd, sf, s16, List.length_replicate]
  generalize hkk : kont _ _ _ _ _ _ _ = kk
  have e := R65 (zb := zb) (s0 := s0) n kk (List.replicate 16 (AV.v (.int .u8 0))) (sha m) hl 16 (by omega) (n - 16)
  rw [show n - 16 + 16 = n by omega] at e
  refine e.trans ?_
  subst hkk
  rw [show n - 16 = (n - 17) + 1 by omega, D65L4]
  simp -implicitDefEqProofs (disch := first | omega | (simp only [rB]; done) | (simp only [rL] <;> omega) | fail) only [↓rP, rO, Int.reduceAdd, Int.reduceSub, Int.reduceMul, Int.reduceNeg, Int.reduceToNat, Int.reduceLT, Int.reduceLE, Int.reduceEq, Nat.reduceAdd, Nat.reduceMul, Nat.reduceSub, Nat.reduceLT, Nat.reduceLeDiff, Nat.reduceEqDiff, rT, rI]
  rw [D65K4exit0]
  have e16 : dcl (sha m) 16 = ((sha m).take 16).map vy := by simp [dcl]
  have h16 : (((sha m).take 16).map vy).length = 16 := by simp [hl]
  have sb : setAt (List.replicate 16 (AV.v (.int .u8 0))) 0 (((sha m).take 16).map vy) = ((sha m).take 16).map vy := setAt_all _ _ (by rw [h16]; simp)
  have t16 : (((sha m).take 16).map vy).take 16 = ((sha m).take 16).map vy := List.take_of_length_le (by omega)
  generalize (sha m).take 16 = z at *
  simp -implicitDefEqProofs (disch := first | omega | (simp only [rB]; done) | (simp only [rL] <;> omega) | fail) only [↓rP, rO, Int.reduceAdd, Int.reduceSub, Int.reduceMul, Int.reduceNeg, Int.reduceToNat, Int.reduceLT, Int.reduceLE, Int.reduceEq, Nat.reduceAdd, Nat.reduceMul, Nat.reduceSub, Nat.reduceLT, Nat.reduceLeDiff, Nat.reduceEqDiff, rT, rI, e16, h16, sb, t16, map_fit_y, map_bare_y, List.length_replicate]
theorem F41 (n : Nat) (hn : 2 ^ 49 ≤ n) (t : Int) (tag : Tag) (htag : tag = .none ∨ tag = .full) (ps : List (List UInt8)) (hps : ∀ l ∈ ps, l.length < 2 ^ 40) (hpl : ps.length < 2 ^ 16) (hT : (hashIn t ps).length < 2 ^ 46) :
    acall (X0 zb) n 41 [vi t, .list tag ps.length (scells ps)] s0 = some (vd (hashOf t ps), s0) := by
  obtain ⟨n, rfl⟩ : ∃ k, n = k + 1 := ⟨n - 1, by omega⟩
  obtain ⟨tg, h1, h2⟩ := F66 (zb := zb) (s0 := { blks := [⟨31, 0, List.replicate 16 (AV.v (.int .u8 0))⟩], toks := [] } :: s0) n (by omega) t tag htag ps hps hpl hT
  have h3 := fun s0 => F65 (zb := zb) (s0 := s0) n (by omega) tg h1 (hashIn t ps) hT
  have e16 : ((sha (hashIn t ps)).take 16).map vy = (hashOf t ps).val.map vy := rfl
  have h16 : ((hashOf t ps).val.map vy).length = 16 := by rw [List.length_map, Dig.len]
  have sb : setAt (List.replicate 16 (AV.v (.int .u8 0))) 0 ((hashOf t ps).val.map vy) = (hashOf t ps).val.map vy := setAt_all _ _ (by rw [h16]; simp)
  have t16 : ((hashOf t ps).val.map vy).take 16 = (hashOf t ps).val.map vy := List.take_of_length_le (by omega)
  rw [E41, D41]
  simp -implicitDefEqProofs (disch := first | omega | (simp only [rB]; done) | exact plain_rep _ _ | exact map_plain_w _ | exact map_plain_y _ | (apply plain_cons; repeat (first | exact plain_nil | apply plain_cons)) | (simp only [rL] <;> omega) | fail) only [↓rP, rO, Int.reduceAdd, Int.reduceSub, Int.reduceMul, Int.reduceNeg, Int.reduceToNat, Int.reduceLT, Int.reduceLE, Int.reduceEq, Nat.reduceAdd, Nat.reduceMul, Nat.reduceSub, Nat.reduceLT, Nat.reduceLeDiff, Nat.reduceEqDiff, rT, rI, h2, h3, e16, h16, sb, t16, map_fit_y, map_bare_y, List.length_replicate]
  rfl
end
end Go.Proofs.YtnfdepafmmibaaaDoor

