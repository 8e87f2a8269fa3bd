/- Hash trees as plain functions of lists of digests | Checks of hash trees' proofs as plain functions: a path that is taken from both ends | Places in hash trees as plain functions: ascending places, the proof for several elements and its check | Places between two positions, and the reference's walk, as plain functions | Ones of a number, counted by parts, as plain arithmetic | The zeros at a number's end, as plain arithmetic | Peaks grow as the lists do: the roots of a list's greatest complete parts | Paths of elements as lists of pairs; two elements that lead to the same root give two pairs with the same digest | The checks accept the proofs of hash trees, and refuse other roots | Arrays of whole numbers are equal if all their cells are. Conditions: none. -/
import Derived.Test.YtnfdepafmmibaaaDoorV5
/-! Hash trees as plain functions of lists of digests. Conditions: none; definitions and small facts. -/
set_option linter.unusedVariables false
namespace Go.Proofs.YtnfdepafmmibaaaDoor

/-- The greatest power of 2 below n (at least 2). -/
def splitN (n : Nat) : Nat := 2 ^ Nat.log2 (n - 1)
theorem splitN_pos (n : Nat) : 0 < splitN n := Nat.two_pow_pos _
theorem splitN_lt {n : Nat} (h : 2 ≤ n) : splitN n < n := by
  have := Nat.log2_self_le (n := n - 1) (by omega)
  unfold splitN; omega
theorem splitN_ge {n : Nat} (h : 2 ≤ n) : n ≤ 2 * splitN n := by
  have := Nat.lt_log2_self (n := n - 1)
  unfold splitN
  rw [Nat.pow_succ] at this
  omega
theorem splitN_unique {n e : Nat} (h : 2 ≤ n) (h1 : 2 ^ e < n) (h2 : n ≤ 2 * 2 ^ e) : 2 ^ e = splitN n := by
  unfold splitN
  congr 1
  exact ((Nat.log2_eq_iff (by omega)).2 ⟨by omega, by rw [Nat.pow_succ]; omega⟩).symm
/-- The root of a list. -/
def rootD (l : List Dig) : Dig :=
  if h0 : l.length = 0 then emptyD
  else if h1 : l.length = 1 then l.getD 0 Dig.zero
  else nodeD (rootD (l.take (splitN l.length))) (rootD (l.drop (splitN l.length)))
termination_by l.length
decreasing_by
  · have := splitN_lt (n := l.length) (by omega)
    rw [List.length_take]; omega
  · have := splitN_pos l.length
    rw [List.length_drop]; omega
theorem rootD_0 {l : List Dig} (h : l.length = 0) : rootD l = emptyD := by rw [rootD, dif_pos h]
theorem rootD_1 {l : List Dig} (h : l.length = 1) : rootD l = l.getD 0 Dig.zero := by rw [rootD, dif_neg (by omega), dif_pos h]
theorem rootD_2 {l : List Dig} (h : 2 ≤ l.length) : rootD l = nodeD (rootD (l.take (splitN l.length))) (rootD (l.drop (splitN l.length))) := by rw [rootD, dif_neg (by omega), dif_neg (by omega)]
/-- The proof of an element. -/
def inclD (l : List Dig) (i : Nat) : List Dig :=
  if h1 : l.length ≤ 1 then []
  else if i < splitN l.length then inclD (l.take (splitN l.length)) i ++ [rootD (l.drop (splitN l.length))]
  else inclD (l.drop (splitN l.length)) (i - splitN l.length) ++ [rootD (l.take (splitN l.length))]
termination_by l.length
decreasing_by
  · have := splitN_lt (n := l.length) (by omega)
    rw [List.length_take]; omega
  · have := splitN_pos l.length
    rw [List.length_drop]; omega
theorem inclD_1 {l : List Dig} {i : Nat} (h : l.length ≤ 1) : inclD l i = [] := by rw [inclD, dif_pos h]
theorem inclD_lo {l : List Dig} {i : Nat} (h : 2 ≤ l.length) (hi : i < splitN l.length) : inclD l i = inclD (l.take (splitN l.length)) i ++ [rootD (l.drop (splitN l.length))] := by
  rw [inclD, dif_neg (by omega), if_pos hi]
theorem inclD_hi {l : List Dig} {i : Nat} (h : 2 ≤ l.length) (hi : ¬ i < splitN l.length) : inclD l i = inclD (l.drop (splitN l.length)) (i - splitN l.length) ++ [rootD (l.take (splitN l.length))] := by
  rw [inclD, dif_neg (by omega), if_neg hi]
theorem inclD_len (k : Nat) : ∀ (l : List Dig) (i : Nat), l.length = k → (inclD l i).length ≤ k := by
  induction k using Nat.strongRecOn with
  | _ k ih =>
    intro l i hl
    by_cases h : l.length ≤ 1
    · rw [inclD_1 h]; simp
    · have h1 := splitN_lt (n := l.length) (by omega)
      have h0 := splitN_pos l.length
      by_cases hi : i < splitN l.length
      · rw [inclD_lo (by omega) hi, List.length_append, List.length_singleton]
        have := ih (splitN l.length) (by omega) (l.take (splitN l.length)) i (by rw [List.length_take]; omega)
        omega
      · rw [inclD_hi (by omega) hi, List.length_append, List.length_singleton]
        have := ih (l.length - splitN l.length) (by omega) (l.drop (splitN l.length)) (i - splitN l.length) (by rw [List.length_drop])
        omega
/-- The proof of a beginning. -/
def consD (l : List Dig) (m : Nat) (mark : Bool) : List Dig :=
  if m = l.length then (if mark = true then [] else [rootD l])
  else if h1 : l.length ≤ 1 then []
  else if m ≤ splitN l.length then consD (l.take (splitN l.length)) m mark ++ [rootD (l.drop (splitN l.length))]
  else consD (l.drop (splitN l.length)) (m - splitN l.length) false ++ [rootD (l.take (splitN l.length))]
termination_by l.length
decreasing_by
  · have := splitN_lt (n := l.length) (by omega)
    rw [List.length_take]; omega
  · have := splitN_pos l.length
    rw [List.length_drop]; omega
theorem consD_all {l : List Dig} {mark : Bool} : consD l l.length mark = if mark = true then [] else [rootD l] := by rw [consD, if_pos rfl]
theorem consD_lo {l : List Dig} {m : Nat} {mark : Bool} (hm : m ≠ l.length) (h : 2 ≤ l.length) (hi : m ≤ splitN l.length) : consD l m mark = consD (l.take (splitN l.length)) m mark ++ [rootD (l.drop (splitN l.length))] := by
  rw [consD, if_neg hm, dif_neg (by omega), if_pos hi]
theorem consD_hi {l : List Dig} {m : Nat} {mark : Bool} (hm : m ≠ l.length) (h : 2 ≤ l.length) (hi : ¬ m ≤ splitN l.length) : consD l m mark = consD (l.drop (splitN l.length)) (m - splitN l.length) false ++ [rootD (l.take (splitN l.length))] := by
  rw [consD, if_neg hm, dif_neg (by omega), if_neg hi]
theorem consD_len (k : Nat) : ∀ (l : List Dig) (m : Nat) (mark : Bool), l.length = k → (consD l m mark).length ≤ k + 1 := by
  induction k using Nat.strongRecOn with
  | _ k ih =>
    intro l m mark hl
    by_cases he : m = l.length
    · subst he
      rw [consD_all]
      split <;> simp
    · by_cases h : l.length ≤ 1
      · rw [consD, if_neg he, dif_pos h]; simp
      · have h1 := splitN_lt (n := l.length) (by omega)
        have h0 := splitN_pos l.length
        by_cases hi : m ≤ splitN l.length
        · rw [consD_lo he (by omega) hi, List.length_append, List.length_singleton]
          have := ih (splitN l.length) (by omega) (l.take (splitN l.length)) m mark (by rw [List.length_take]; omega)
          omega
        · rw [consD_hi he (by omega) hi, List.length_append, List.length_singleton]
          have := ih (l.length - splitN l.length) (by omega) (l.drop (splitN l.length)) (m - splitN l.length) false (by rw [List.length_drop])
          omega
end Go.Proofs.YtnfdepafmmibaaaDoor

/-! Checks of hash trees' proofs as plain functions: a path that is taken from both ends. Conditions: none; definitions and small facts. -/
set_option linter.unusedVariables false
namespace Go.Proofs.YtnfdepafmmibaaaDoor

/-- A path that is gone through, and whether it has had too few digests. -/
structure Pt where
  l : List Dig
  sh : Bool
def Pt.last (p : Pt) : Dig × Pt := if p.l.length = 0 then (Dig.zero, ⟨p.l, true⟩) else (p.l.getD (p.l.length - 1) Dig.zero, ⟨p.l.take (p.l.length - 1), p.sh⟩)
def Pt.first (p : Pt) : Dig × Pt := if p.l.length = 0 then (Dig.zero, ⟨p.l, true⟩) else (p.l.getD 0 Dig.zero, ⟨p.l.drop 1, p.sh⟩)
theorem Pt.last_len (p : Pt) : p.last.2.l.length ≤ p.l.length := by
  unfold Pt.last; split
  · exact Nat.le_refl _
  · simp only [List.length_take]; omega
theorem Pt.first_len (p : Pt) : p.first.2.l.length ≤ p.l.length := by
  unfold Pt.first; split
  · exact Nat.le_refl _
  · simp only [List.length_drop]; omega
/-- The root that an element's path leads to. -/
def climbI (leaf : Dig) (i n : Nat) (p : Pt) : Dig × Pt :=
  if h : n ≤ 1 then (leaf, p)
  else if i < splitN n then
    (nodeD (climbI leaf i (splitN n) p.last.2).1 p.last.1, (climbI leaf i (splitN n) p.last.2).2)
  else (nodeD p.last.1 (climbI leaf (i - splitN n) (n - splitN n) p.last.2).1, (climbI leaf (i - splitN n) (n - splitN n) p.last.2).2)
termination_by n
decreasing_by
  all_goals
    have := splitN_lt (n := n) (by omega)
    have := splitN_pos n
    omega
theorem climbI_1 {leaf : Dig} {i n : Nat} {p : Pt} (h : n ≤ 1) : climbI leaf i n p = (leaf, p) := by rw [climbI, dif_pos h]
theorem climbI_lo {leaf : Dig} {i n : Nat} {p : Pt} (h : 2 ≤ n) (hi : i < splitN n) : climbI leaf i n p = (nodeD (climbI leaf i (splitN n) p.last.2).1 p.last.1, (climbI leaf i (splitN n) p.last.2).2) := by
  rw [climbI, dif_neg (by omega), if_pos hi]
theorem climbI_hi {leaf : Dig} {i n : Nat} {p : Pt} (h : 2 ≤ n) (hi : ¬ i < splitN n) : climbI leaf i n p = (nodeD p.last.1 (climbI leaf (i - splitN n) (n - splitN n) p.last.2).1, (climbI leaf (i - splitN n) (n - splitN n) p.last.2).2) := by
  rw [climbI, dif_neg (by omega), if_neg hi]
def settled (ok : Bool) (p : Pt) : Bool := ok && !p.sh && decide (p.l.length = 0)
def checkI (leaf : Dig) (i n : Int) (l : List Dig) (root : Dig) : Bool :=
  if n < 1 ∨ 1099511627776 < n ∨ i < 0 ∨ n ≤ i then false
  else settled (decide ((climbI leaf i.toNat n.toNat ⟨l, false⟩).1 = root)) (climbI leaf i.toNat n.toNat ⟨l, false⟩).2
/-- The two roots that a beginning's path leads to. -/
def climbC (old : Dig) (m n : Nat) (mark : Bool) (p : Pt) : (Dig × Dig) × Pt :=
  if m = n then (if mark = true then ((old, old), p) else ((p.last.1, p.last.1), p.last.2))
  else if h : n ≤ 1 then ((old, old), p)
  else if m ≤ splitN n then
    (((climbC old m (splitN n) mark p.last.2).1.1, nodeD (climbC old m (splitN n) mark p.last.2).1.2 p.last.1), (climbC old m (splitN n) mark p.last.2).2)
  else ((nodeD p.last.1 (climbC old (m - splitN n) (n - splitN n) false p.last.2).1.1, nodeD p.last.1 (climbC old (m - splitN n) (n - splitN n) false p.last.2).1.2), (climbC old (m - splitN n) (n - splitN n) false p.last.2).2)
termination_by n
decreasing_by
  all_goals
    have := splitN_lt (n := n) (by omega)
    have := splitN_pos n
    omega
theorem climbC_all {old : Dig} {n : Nat} {mark : Bool} {p : Pt} : climbC old n n mark p = if mark = true then ((old, old), p) else ((p.last.1, p.last.1), p.last.2) := by rw [climbC, if_pos rfl]
theorem climbC_lo {old : Dig} {m n : Nat} {mark : Bool} {p : Pt} (hm : m ≠ n) (h : 2 ≤ n) (hi : m ≤ splitN n) : climbC old m n mark p =
    (((climbC old m (splitN n) mark p.last.2).1.1, nodeD (climbC old m (splitN n) mark p.last.2).1.2 p.last.1), (climbC old m (splitN n) mark p.last.2).2) := by
  rw [climbC, if_neg hm, dif_neg (by omega), if_pos hi]
theorem climbC_hi {old : Dig} {m n : Nat} {mark : Bool} {p : Pt} (hm : m ≠ n) (h : 2 ≤ n) (hi : ¬ m ≤ splitN n) : climbC old m n mark p =
    ((nodeD p.last.1 (climbC old (m - splitN n) (n - splitN n) false p.last.2).1.1, nodeD p.last.1 (climbC old (m - splitN n) (n - splitN n) false p.last.2).1.2), (climbC old (m - splitN n) (n - splitN n) false p.last.2).2) := by
  rw [climbC, if_neg hm, dif_neg (by omega), if_neg hi]
def checkC (m n : Int) (old root : Dig) (l : List Dig) : Bool :=
  if m < 0 ∨ n < m ∨ 1099511627776 < n then false
  else if m = 0 then settled (decide (old = emptyD)) ⟨l, false⟩
  else settled (decide ((climbC old m.toNat n.toNat true ⟨l, false⟩).1.1 = old) && decide ((climbC old m.toNat n.toNat true ⟨l, false⟩).1.2 = root)) (climbC old m.toNat n.toNat true ⟨l, false⟩).2
end Go.Proofs.YtnfdepafmmibaaaDoor

/-! Places in hash trees as plain functions: ascending places, the proof for several elements and its check. Conditions: none; definitions and small facts. -/
set_option linter.unusedVariables false
namespace Go.Proofs.YtnfdepafmmibaaaDoor

/-- Places are strictly ascending, after a last one, and less than n. -/
def ascFrom (n : Int) : Int → List Int → Bool
  | _, [] => true
  | last, i :: r => if i ≤ last ∨ n ≤ i then false else ascFrom n i r
/-- Strictly ascending numbers. -/
def Asc (l : List Int) : Prop := l.Pairwise (· < ·)
theorem ascFrom_asc (n : Int) : ∀ (l : List Int) (last : Int), ascFrom n last l = true → (∀ i ∈ l, last < i ∧ i < n) ∧ Asc l
  | [], _, _ => ⟨by simp, List.Pairwise.nil⟩
  | i :: r, last, h => by
    rw [ascFrom] at h
    split at h
    · cases h
    · rename_i h1
      obtain ⟨h2, h3⟩ := ascFrom_asc n r i h
      refine ⟨?_, List.pairwise_cons.2 ⟨fun j hj => (h2 j hj).1, h3⟩⟩
      intro j hj
      rcases List.mem_cons.1 hj with rfl | hj
      · omega
      · have := h2 j hj; omega
/-- How many places lie before a position. -/
def cutN (t : Int) (l : List Int) : Nat := (l.takeWhile fun i => decide (i < t)).length
theorem cutN_le (t : Int) (l : List Int) : cutN t l ≤ l.length := (List.takeWhile_sublist _).length_le
theorem cutN_iff (t : Int) : ∀ (l : List Int), Asc l → ∀ k : Nat, k < l.length → (l.getD k 0 < t ↔ k < cutN t l)
  | [], _, k, hk => by simp at hk
  | i :: r, h, k, hk => by
    obtain ⟨h1, h2⟩ := List.pairwise_cons.1 h
    unfold cutN
    rw [List.takeWhile_cons]
    by_cases hi : i < t
    · rw [if_pos (by simpa using hi)]
      cases k with
      | zero => simp [hi]
      | succ k =>
        have := cutN_iff t r h2 k (by simpa using hk)
        simp only [List.getD_cons_succ, List.length_cons, Nat.add_lt_add_iff_right]
        exact this
    · rw [if_neg (by simpa using hi)]
      simp only [List.length_nil, Nat.not_lt_zero, iff_false]
      cases k with
      | zero => simpa using hi
      | succ k =>
        have hk' : k < r.length := by simpa using hk
        have := h1 (r.getD k 0) (by rw [List.getD_eq_getElem?_getD, List.getElem?_eq_getElem hk']; simp)
        simp only [List.getD_cons_succ]; omega
theorem Asc.take {l : List Int} (h : Asc l) (k : Nat) : Asc (l.take k) := List.Pairwise.sublist (List.take_sublist k l) h
theorem Asc.drop {l : List Int} (h : Asc l) (k : Nat) : Asc (l.drop k) := List.Pairwise.sublist (List.drop_sublist k l) h
theorem takeW (t : Int) (l : List Int) : l.take (cutN t l) = l.takeWhile fun i => decide (i < t) := by
  induction l with
  | nil => rfl
  | cons i r ih =>
    unfold cutN at *
    rw [List.takeWhile_cons]
    split
    · simp [ih]
    · rfl
theorem dropW (t : Int) (l : List Int) : l.drop (cutN t l) = l.dropWhile fun i => decide (i < t) := by
  induction l with
  | nil => rfl
  | cons i r ih =>
    unfold cutN at *
    rw [List.takeWhile_cons, List.dropWhile_cons]
    split
    · simp [ih]
    · simp
/-- The proof for several elements of a part that begins at a position. -/
def manyD (l : List Dig) (a : Int) (ps : List Int) : List Dig :=
  if ps.length = 0 then [rootD l]
  else if h : l.length ≤ 1 then []
  else manyD (l.take (splitN l.length)) a (ps.take (cutN (a + splitN l.length) ps)) ++ manyD (l.drop (splitN l.length)) (a + splitN l.length) (ps.drop (cutN (a + splitN l.length) ps))
termination_by l.length
decreasing_by
  all_goals
    have := splitN_lt (n := l.length) (by omega)
    have := splitN_pos l.length
    simp only [List.length_take, List.length_drop]
    omega
theorem manyD_0 {l : List Dig} {a : Int} {ps : List Int} (h : ps.length = 0) : manyD l a ps = [rootD l] := by rw [manyD, if_pos h]
theorem manyD_1 {l : List Dig} {a : Int} {ps : List Int} (h : ¬ ps.length = 0) (h1 : l.length ≤ 1) : manyD l a ps = [] := by rw [manyD, if_neg h, dif_pos h1]
theorem manyD_2 {l : List Dig} {a : Int} {ps : List Int} (h : ¬ ps.length = 0) (h1 : 2 ≤ l.length) : manyD l a ps =
    manyD (l.take (splitN l.length)) a (ps.take (cutN (a + splitN l.length) ps)) ++ manyD (l.drop (splitN l.length)) (a + splitN l.length) (ps.drop (cutN (a + splitN l.length) ps)) := by
  rw [manyD, if_neg h, dif_neg (by omega)]
theorem manyD_len (n : Nat) : ∀ (l : List Dig), l.length = n → 1 ≤ n → ∀ (a : Int) (ps : List Int), (manyD l a ps).length ≤ n := by
  induction n using Nat.strongRecOn with
  | _ n ih =>
  intro l hn h0 a ps
  by_cases h : ps.length = 0
  · rw [manyD_0 h]; simpa using h0
  · by_cases h1 : l.length ≤ 1
    · rw [manyD_1 h h1]; simp
    · have hs := splitN_lt (n := n) (by omega)
      have hs0 := splitN_pos n
      rw [manyD_2 h (by omega), List.length_append, hn]
      have r1 := ih (splitN n) hs (l.take (splitN n)) (by rw [List.length_take]; omega) (by omega) a (ps.take (cutN (a + splitN n) ps))
      have r2 := ih (n - splitN n) (by omega) (l.drop (splitN n)) (by rw [List.length_drop]; omega) (by omega) (a + splitN n) (ps.drop (cutN (a + splitN n) ps))
      omega
def manyE (l : List Dig) (ps : List Int) : List Dig × Int :=
  if ascFrom l.length (-1) ps = true then (if 0 < l.length then manyD l 0 ps else [], 0) else ([], 1)
/-- The root that several elements' path leads to. -/
def climbM (a : Int) (n : Nat) (ps : List Int) (p q : Pt) : Dig × Pt × Pt :=
  if ps.length = 0 then (p.first.1, p.first.2, q)
  else if h : n ≤ 1 then (q.first.1, p, q.first.2)
  else
    (nodeD (climbM a (splitN n) (ps.take (cutN (a + splitN n) ps)) p q).1
        (climbM (a + splitN n) (n - splitN n) (ps.drop (cutN (a + splitN n) ps)) (climbM a (splitN n) (ps.take (cutN (a + splitN n) ps)) p q).2.1 (climbM a (splitN n) (ps.take (cutN (a + splitN n) ps)) p q).2.2).1,
      (climbM (a + splitN n) (n - splitN n) (ps.drop (cutN (a + splitN n) ps)) (climbM a (splitN n) (ps.take (cutN (a + splitN n) ps)) p q).2.1 (climbM a (splitN n) (ps.take (cutN (a + splitN n) ps)) p q).2.2).2)
termination_by n
decreasing_by
  all_goals
    have := splitN_lt (n := n) (by omega)
    have := splitN_pos n
    omega
theorem climbM_0 {a : Int} {n : Nat} {ps : List Int} {p q : Pt} (h : ps.length = 0) : climbM a n ps p q = (p.first.1, p.first.2, q) := by rw [climbM, if_pos h]
theorem climbM_1 {a : Int} {n : Nat} {ps : List Int} {p q : Pt} (h : ¬ ps.length = 0) (h1 : n ≤ 1) : climbM a n ps p q = (q.first.1, p, q.first.2) := by rw [climbM, if_neg h, dif_pos h1]
theorem climbM_2 {a : Int} {n : Nat} {ps : List Int} {p q : Pt} (h : ¬ ps.length = 0) (h1 : 2 ≤ n) : climbM a n ps p q =
    (nodeD (climbM a (splitN n) (ps.take (cutN (a + splitN n) ps)) p q).1
        (climbM (a + splitN n) (n - splitN n) (ps.drop (cutN (a + splitN n) ps)) (climbM a (splitN n) (ps.take (cutN (a + splitN n) ps)) p q).2.1 (climbM a (splitN n) (ps.take (cutN (a + splitN n) ps)) p q).2.2).1,
      (climbM (a + splitN n) (n - splitN n) (ps.drop (cutN (a + splitN n) ps)) (climbM a (splitN n) (ps.take (cutN (a + splitN n) ps)) p q).2.1 (climbM a (splitN n) (ps.take (cutN (a + splitN n) ps)) p q).2.2).2) := by
  rw [climbM, if_neg h, dif_neg (by omega)]
theorem climbM_len (n : Nat) : ∀ (a : Int) (ps : List Int) (p q : Pt), (climbM a n ps p q).2.1.l.length ≤ p.l.length ∧ (climbM a n ps p q).2.2.l.length ≤ q.l.length := by
  induction n using Nat.strongRecOn with
  | _ n ih =>
  intro a ps p q
  by_cases h : ps.length = 0
  · rw [climbM_0 h]; exact ⟨p.first_len, Nat.le_refl _⟩
  · by_cases h1 : n ≤ 1
    · rw [climbM_1 h h1]; exact ⟨Nat.le_refl _, q.first_len⟩
    · have hs := splitN_lt (n := n) (by omega)
      have hs0 := splitN_pos n
      rw [climbM_2 h (by omega)]
      have r1 := ih (splitN n) hs a (ps.take (cutN (a + splitN n) ps)) p q
      have r2 := ih (n - splitN n) (by omega) (a + splitN n) (ps.drop (cutN (a + splitN n) ps)) (climbM a (splitN n) (ps.take (cutN (a + splitN n) ps)) p q).2.1 (climbM a (splitN n) (ps.take (cutN (a + splitN n) ps)) p q).2.2
      exact ⟨Nat.le_trans r2.1 r1.1, Nat.le_trans r2.2 r1.2⟩
def checkM (n : Int) (ps : List Int) (found l : List Dig) (root : Dig) : Bool :=
  if n < 0 ∨ 1099511627776 < n ∨ ¬ ascFrom n (-1) ps = true ∨ ¬ found.length = ps.length then false
  else if n = 0 then settled (decide (root = emptyD)) ⟨l, false⟩
  else settled (decide ((climbM 0 n.toNat ps ⟨l, false⟩ ⟨found, false⟩).1 = root)) (climbM 0 n.toNat ps ⟨l, false⟩ ⟨found, false⟩).2.1
end Go.Proofs.YtnfdepafmmibaaaDoor

/-! Places between two positions, and the reference's walk, as plain functions. Conditions: none; definitions and small facts. -/
set_option linter.unusedVariables false
namespace Go.Proofs.YtnfdepafmmibaaaDoor

/-- The places from a position on, before another one. -/
def fl (a b : Int) (ps : List Int) : List Int := ps.filter fun i => decide (a ≤ i) && decide (i < b)
theorem fl_mem {a b : Int} {ps : List Int} {i : Int} (h : i ∈ fl a b ps) : a ≤ i ∧ i < b := by
  have := (List.mem_filter.1 h).2
  simpa using this
theorem fl_all {a b : Int} {ps : List Int} (h : ∀ i ∈ ps, a ≤ i ∧ i < b) : fl a b ps = ps := by
  apply List.filter_eq_self.2
  intro i hi
  have := h i hi
  simp [this.1, this.2]
theorem fl_none {a b : Int} {ps : List Int} (h : ∀ i ∈ ps, i < a ∨ b ≤ i) : fl a b ps = [] := by
  apply List.filter_eq_nil_iff.2
  intro i hi
  have := h i hi
  simp only [Bool.and_eq_true, decide_eq_true_eq]
  omega
theorem fl_cons_in {a b i : Int} {r : List Int} (h : a ≤ i ∧ i < b) : fl a b (i :: r) = i :: fl a b r := by
  rw [fl, List.filter_cons_of_pos (by simp [h.1, h.2]), fl]
theorem fl_cons_out {a b i : Int} {r : List Int} (h : ¬ (a ≤ i ∧ i < b)) : fl a b (i :: r) = fl a b r := by
  rw [fl, List.filter_cons_of_neg (by simpa using h), fl]
theorem fl_take {a c : Int} : ∀ {ps : List Int}, Asc ps → (∀ i ∈ ps, a ≤ i) → fl a c ps = ps.take (cutN c ps)
  | [], _, _ => rfl
  | i :: r, h, ha => by
    obtain ⟨h1, h2⟩ := List.pairwise_cons.1 h
    have hi := ha i (List.mem_cons_self ..)
    have ih := fl_take (c := c) h2 fun j hj => ha j (List.mem_cons_of_mem _ hj)
    rw [takeW] at ih ⊢
    rw [List.takeWhile_cons]
    by_cases hc : i < c
    · rw [fl_cons_in ⟨hi, hc⟩, if_pos (by simpa using hc), ih]
    · rw [fl_cons_out (by omega), if_neg (by simpa using hc)]
      exact fl_none fun j hj => .inr (by have := h1 j hj; omega)
theorem fl_drop {c b : Int} : ∀ {ps : List Int}, Asc ps → (∀ i ∈ ps, i < b) → fl c b ps = ps.drop (cutN c ps)
  | [], _, _ => rfl
  | i :: r, h, hb => by
    obtain ⟨h1, h2⟩ := List.pairwise_cons.1 h
    have hi := hb i (List.mem_cons_self ..)
    have ih := fl_drop (c := c) h2 fun j hj => hb j (List.mem_cons_of_mem _ hj)
    rw [dropW] at ih ⊢
    rw [List.dropWhile_cons]
    by_cases hc : i < c
    · rw [fl_cons_out (by omega), if_pos (by simpa using hc), ih]
    · rw [if_neg (by simpa using hc)]
      exact fl_all fun j hj => by
        rcases List.mem_cons.1 hj with rfl | hj
        · omega
        · have := h1 j hj; have := hb j (List.mem_cons_of_mem _ hj); omega
end Go.Proofs.YtnfdepafmmibaaaDoor

/-! Ones of a number, counted by parts, as plain arithmetic. Conditions: none. -/
set_option linter.unusedVariables false
set_option maxRecDepth 20000
namespace Go.Proofs.YtnfdepafmmibaaaDoor

theorem and_split (a b c d : Nat) (ha : a < 256) (hc : c < 256) : (a + 256 * b) &&& (c + 256 * d) = (a &&& c) + 256 * (b &&& d) := by
  have hac : a &&& c < 2 ^ 8 := Nat.and_lt_two_pow _ hc
  apply Nat.eq_of_testBit_eq
  intro i
  have e : ∀ x y : Nat, x < 256 → (x + 256 * y).testBit i = if i < 8 then x.testBit i else y.testBit (i - 8) := by
    intro x y hx
    rw [Nat.add_comm, show 256 = 2 ^ 8 from rfl, Nat.testBit_two_pow_mul_add _ hx]
  rw [Nat.testBit_and, e a b ha, e c d hc, e _ _ hac]
  split <;> rw [Nat.testBit_and]
/-- A mask of k bytes. -/
def mk (m : Nat) : Nat → Nat
  | 0 => 0
  | k + 1 => m + 256 * mk m k
/-- The sum of a number's bytes, each by f. -/
def byt (f : Nat → Nat) : Nat → Nat → Nat
  | 0, _ => 0
  | k + 1, x => f (x % 256) + 256 * byt f k (x / 256)
def po1 (a : Nat) : Nat := ((a / 2) &&& 85) + (a &&& 85)
def po2 (a : Nat) : Nat := ((a / 4) &&& 51) + (a &&& 51)
theorem po1_k : ∀ k x : Nat, x < 256 ^ k → ((x / 2) &&& mk 85 k) + (x &&& mk 85 k) = byt po1 k x
  | 0, x, h => by simp [mk, byt]
  | k + 1, x, h => by
    have hk : x / 256 < 256 ^ k := by rw [Nat.pow_succ] at h; omega
    have ih := po1_k k (x / 256) hk
    have hx : x = x % 256 + 256 * (x / 256) := by omega
    have hx2 : x / 2 = (x % 256 / 2 + 128 * (x / 256 % 2)) + 256 * (x / 256 / 2) := by omega
    have key : ∀ a, a < 256 → ∀ r, r < 2 → (a / 2 + 128 * r) &&& 85 = (a / 2) &&& 85 := by decide +kernel
    have k1 := key (x % 256) (by omega) (x / 256 % 2) (by omega)
    rw [mk, byt, ← ih, hx2, and_split _ _ _ _ (by omega) (by omega), k1]
    have k2 := and_split (x % 256) (x / 256) 85 (mk 85 k) (by omega) (by omega)
    rw [← hx] at k2
    rw [k2, po1]
    omega
theorem po2_k : ∀ k x : Nat, x < 256 ^ k → ((x / 4) &&& mk 51 k) + (x &&& mk 51 k) = byt po2 k x
  | 0, x, h => by simp [mk, byt]
  | k + 1, x, h => by
    have hk : x / 256 < 256 ^ k := by rw [Nat.pow_succ] at h; omega
    have ih := po2_k k (x / 256) hk
    have hx : x = x % 256 + 256 * (x / 256) := by omega
    have hx2 : x / 4 = (x % 256 / 4 + 64 * (x / 256 % 4)) + 256 * (x / 256 / 4) := by omega
    have key : ∀ a, a < 256 → ∀ r, r < 4 → (a / 4 + 64 * r) &&& 51 = (a / 4) &&& 51 := by decide +kernel
    have k1 := key (x % 256) (by omega) (x / 256 % 4) (by omega)
    rw [mk, byt, ← ih, hx2, and_split _ _ _ _ (by omega) (by omega), k1]
    have k2 := and_split (x % 256) (x / 256) 51 (mk 51 k) (by omega) (by omega)
    rw [← hx] at k2
    rw [k2, po2]
    omega
theorem byt_lt (f : Nat → Nat) (h : ∀ a, a < 256 → f a < 256) : ∀ k x, byt f k x < 256 ^ k
  | 0, x => by simp [byt]
  | k + 1, x => by
    have := byt_lt f h k (x / 256)
    have h1 := h (x % 256) (by omega)
    rw [byt, Nat.pow_succ]; omega
theorem byt_le (f : Nat → Nat) (c : Nat) (h : ∀ a, a < 256 → f a ≤ c) : ∀ k x, byt f k x ≤ c * mk 1 k
  | 0, x => by simp [byt]
  | k + 1, x => by
    have := byt_le f c h k (x / 256)
    have h1 := h (x % 256) (by omega)
    rw [byt, mk, Nat.mul_add, Nat.mul_one, Nat.mul_left_comm]; omega
theorem byt_byt (f g : Nat → Nat) (h : ∀ a, a < 256 → f a < 256) : ∀ k x, byt g k (byt f k x) = byt (fun a => g (f a)) k x
  | 0, x => rfl
  | k + 1, x => by
    have h1 := h (x % 256) (by omega)
    have e1 : (f (x % 256) + 256 * byt f k (x / 256)) % 256 = f (x % 256) := by omega
    have e2 : (f (x % 256) + 256 * byt f k (x / 256)) / 256 = byt f k (x / 256) := by omega
    rw [byt, byt, byt, e1, e2, byt_byt f g h k]
def po3 (a : Nat) : Nat := a / 16 + a % 16
theorem po3_k (f : Nat → Nat) (h : ∀ a, a < 256 → f a % 16 ≤ 4 ∧ f a / 16 ≤ 4) : ∀ k x, (byt f k x / 16 + byt f k x) &&& mk 15 k = byt (fun a => po3 (f a)) k x
  | 0, x => by simp [mk, byt]
  | k + 1, x => by
    have h1 := h (x % 256) (by omega)
    have ih := po3_k f h k (x / 256)
    have hb : byt f k (x / 256) % 16 ≤ 4 := by
      cases k with
      | zero => simp [byt]
      | succ k => rw [byt]; have := h (x / 256 % 256) (by omega); omega
    rw [byt, byt, mk, ← ih]
    generalize byt f k (x / 256) = b at *
    generalize f (x % 256) = a at *
    have e : (a + 256 * b) / 16 + (a + 256 * b) = (a / 16 + a + 16 * (b % 16)) + 256 * (b / 16 + b) := by omega
    rw [e, and_split _ _ _ _ (by omega) (by omega), show (15 : Nat) = 2 ^ 4 - 1 from rfl, Nat.and_two_pow_sub_one_eq_mod, po3]
    omega
/-- The bytes' sum. -/
def bsum (f : Nat → Nat) : Nat → Nat → Nat
  | 0, _ => 0
  | k + 1, x => f (x % 256) + bsum f k (x / 256)
theorem ones_step (x : Nat) : ones x = x % 2 + ones (x / 2) := by
  by_cases h : x = 0
  · subst h; rw [ones, if_pos rfl]
  · rw [ones, if_neg h]
theorem ones_byte (x : Nat) : ones x = po3 (po2 (po1 (x % 256))) + ones (x / 256) := by
  have key : ∀ a, a < 256 → po3 (po2 (po1 a)) = a % 2 + a / 2 % 2 + a / 4 % 2 + a / 8 % 2 + a / 16 % 2 + a / 32 % 2 + a / 64 % 2 + a / 128 % 2 := by decide +kernel
  rw [key _ (by omega), ones_step x, ones_step (x / 2), ones_step (x / 2 / 2), ones_step (x / 2 / 2 / 2), ones_step (x / 2 / 2 / 2 / 2), ones_step (x / 2 / 2 / 2 / 2 / 2), ones_step (x / 2 / 2 / 2 / 2 / 2 / 2), ones_step (x / 2 / 2 / 2 / 2 / 2 / 2 / 2)]
  rw [show x / 2 / 2 / 2 / 2 / 2 / 2 / 2 / 2 = x / 256 by omega]
  omega
theorem ones_bsum : ∀ k x, x < 256 ^ k → ones x = bsum (fun a => po3 (po2 (po1 a))) k x
  | 0, x, h => by
    obtain rfl : x = 0 := by simpa using h
    rw [ones, if_pos rfl]; rfl
  | k + 1, x, h => by
    rw [ones_byte, bsum, ones_bsum k (x / 256) (by rw [Nat.pow_succ] at h; omega)]
theorem fin8 (c0 c1 c2 c3 c4 c5 c6 c7 y : Nat) (h0 : c0 ≤ 8) (h1 : c1 ≤ 8) (h2 : c2 ≤ 8) (h3 : c3 ≤ 8) (h4 : c4 ≤ 8) (h5 : c5 ≤ 8) (h6 : c6 ≤ 8) (h7 : c7 ≤ 8)
    (hy : y = c0 + 256 * (c1 + 256 * (c2 + 256 * (c3 + 256 * (c4 + 256 * (c5 + 256 * (c6 + 256 * (c7 + 256 * 0)))))))) :
    (((y + y / 256) + (y + y / 256) / 65536) + ((y + y / 256) + (y + y / 256) / 65536) / 4294967296) % 128 = c0 + (c1 + (c2 + (c3 + (c4 + (c5 + (c6 + (c7 + 0))))))) := by
  have e1 : y / 256 = c1 + 256 * (c2 + 256 * (c3 + 256 * (c4 + 256 * (c5 + 256 * (c6 + 256 * c7))))) := by omega
  rw [e1]
  have e2 : (y + (c1 + 256 * (c2 + 256 * (c3 + 256 * (c4 + 256 * (c5 + 256 * (c6 + 256 * c7))))))) / 65536 = (c2 + c3) + 256 * ((c3 + c4) + 256 * ((c4 + c5) + 256 * ((c5 + c6) + 256 * ((c6 + c7) + 256 * c7)))) := by
    clear e1; omega
  rw [e2]
  have e3 : (y + (c1 + 256 * (c2 + 256 * (c3 + 256 * (c4 + 256 * (c5 + 256 * (c6 + 256 * c7)))))) + ((c2 + c3) + 256 * ((c3 + c4) + 256 * ((c4 + c5) + 256 * ((c5 + c6) + 256 * ((c6 + c7) + 256 * c7)))))) / 4294967296
      = (c4 + c5 + c6 + c7) + 256 * ((c5 + c6 + c7) + 256 * ((c6 + c7) + 256 * c7)) := by
    clear e1 e2; omega
  rw [e3]
  clear e1 e2 e3
  omega
/-- Go's way to count ones. -/
theorem ones_go (x : Nat) (h : x < 2 ^ 64) : ∃ y, byt (fun a => po3 (po2 (po1 a))) 8 x = y ∧ y < 2 ^ 60 ∧
    (((y + y / 256) + (y + y / 256) / 65536) + ((y + y / 256) + (y + y / 256) / 65536) / 4294967296) % 128 = ones x := by
  have hb : ∀ a, a < 256 → po3 (po2 (po1 a)) ≤ 8 := by decide +kernel
  rw [ones_bsum 8 x (by simpa using h)]
  refine ⟨_, rfl, ?_, ?_⟩
  all_goals
    simp only [byt, bsum]
    have b0 := hb (x % 256) (by omega)
    have b1 := hb (x / 256 % 256) (by omega)
    have b2 := hb (x / 256 / 256 % 256) (by omega)
    have b3 := hb (x / 256 / 256 / 256 % 256) (by omega)
    have b4 := hb (x / 256 / 256 / 256 / 256 % 256) (by omega)
    have b5 := hb (x / 256 / 256 / 256 / 256 / 256 % 256) (by omega)
    have b6 := hb (x / 256 / 256 / 256 / 256 / 256 / 256 % 256) (by omega)
    have b7 := hb (x / 256 / 256 / 256 / 256 / 256 / 256 / 256 % 256) (by omega)
    generalize po3 (po2 (po1 (x % 256))) = c0 at *
    generalize po3 (po2 (po1 (x / 256 % 256))) = c1 at *
    generalize po3 (po2 (po1 (x / 256 / 256 % 256))) = c2 at *
    generalize po3 (po2 (po1 (x / 256 / 256 / 256 % 256))) = c3 at *
    generalize po3 (po2 (po1 (x / 256 / 256 / 256 / 256 % 256))) = c4 at *
    generalize po3 (po2 (po1 (x / 256 / 256 / 256 / 256 / 256 % 256))) = c5 at *
    generalize po3 (po2 (po1 (x / 256 / 256 / 256 / 256 / 256 / 256 % 256))) = c6 at *
    generalize po3 (po2 (po1 (x / 256 / 256 / 256 / 256 / 256 / 256 / 256 % 256))) = c7 at *
  · omega
  · exact fin8 c0 c1 c2 c3 c4 c5 c6 c7 _ b0 b1 b2 b3 b4 b5 b6 b7 rfl
end Go.Proofs.YtnfdepafmmibaaaDoor

/-! The zeros at a number's end, as plain arithmetic. Conditions: none. -/
set_option linter.unusedVariables false
set_option maxRecDepth 20000
namespace Go.Proofs.YtnfdepafmmibaaaDoor

/-- How many zeros are at a number's end. -/
def ctz (x : Nat) : Nat := if x = 0 then 64 else if x % 2 = 1 then 0 else ctz (x / 2) + 1
termination_by x
decreasing_by omega
theorem and2 (a b r s : Nat) (hr : r < 2) (hs : s < 2) : (2 * a + r) &&& (2 * b + s) = 2 * (a &&& b) + (r &&& s) := by
  have hrs : r &&& s < 2 ^ 1 := Nat.and_lt_two_pow _ hs
  apply Nat.eq_of_testBit_eq
  intro i
  have e : ∀ x y : Nat, y < 2 → (2 * x + y).testBit i = if i < 1 then y.testBit i else x.testBit (i - 1) := by
    intro x y hy
    have := Nat.testBit_two_pow_mul_add (i := 1) x hy i
    simpa using this
  rw [Nat.testBit_and, e a r hr, e b s hs, e _ _ hrs]
  split <;> rw [Nat.testBit_and]
theorem and_compl : ∀ (n m : Nat), m < 2 ^ n → m &&& (2 ^ n - (m + 1)) = 0 := by
  intro n m h
  apply Nat.eq_of_testBit_eq
  intro i
  rw [Nat.testBit_and, Nat.testBit_two_pow_sub_succ h, Nat.zero_testBit]
  cases m.testBit i <;> simp
theorem and_neg : ∀ (n x : Nat), 0 < x → x < 2 ^ n → x &&& (2 ^ n - x) = 2 ^ ctz x
  | 0, x, h0, h => by simp at h; omega
  | n + 1, x, h0, h => by
    rw [Nat.pow_succ] at h
    by_cases h1 : x % 2 = 1
    · have e1 : x = 2 * (x / 2) + 1 := by omega
      have e2 : 2 ^ (n + 1) - x = 2 * (2 ^ n - (x / 2 + 1)) + 1 := by rw [Nat.pow_succ]; omega
      have e3 := and2 (x / 2) (2 ^ n - (x / 2 + 1)) 1 1 (by omega) (by omega)
      rw [and_compl n (x / 2) (by omega), ← e2, ← e1] at e3
      rw [e3, ctz, if_neg (by omega), if_pos h1]
      rfl
    · have e1 : x = 2 * (x / 2) + 0 := by omega
      have e2 : 2 ^ (n + 1) - x = 2 * (2 ^ n - x / 2) + 0 := by rw [Nat.pow_succ]; omega
      have e3 := and2 (x / 2) (2 ^ n - x / 2) 0 0 (by omega) (by omega)
      rw [and_neg n (x / 2) (by omega) (by omega), ← e2, ← e1] at e3
      rw [e3, ctz.eq_def x, if_neg (by omega), if_neg h1, Nat.pow_succ]
      simp; omega
theorem ctz_lt : ∀ (n x : Nat), 0 < x → x < 2 ^ n → ctz x < n
  | 0, x, h0, h => by simp at h; omega
  | n + 1, x, h0, h => by
    rw [Nat.pow_succ] at h
    rw [ctz, if_neg (by omega)]
    split
    · omega
    · have := ctz_lt n (x / 2) (by omega) (by omega); omega
theorem ctz_not : ∀ (n s : Nat), s + 1 < 2 ^ n → ctz (2 ^ n - 1 - s) = carry s
  | 0, s, h => by simp at h
  | n + 1, s, h => by
    rw [Nat.pow_succ] at h ⊢
    rw [ctz, carry, if_neg (by omega)]
    by_cases h1 : s % 2 = 1
    · rw [if_neg (by omega), if_pos h1, show (2 ^ n * 2 - 1 - s) / 2 = 2 ^ n - 1 - s / 2 by omega, ctz_not n (s / 2) (by omega)]
    · rw [if_pos (by omega), if_neg h1]
end Go.Proofs.YtnfdepafmmibaaaDoor

/-! Peaks grow as the lists do: the roots of a list's greatest complete parts. Conditions: none. -/
set_option linter.unusedVariables false
namespace Go.Proofs.YtnfdepafmmibaaaDoor

end Go.Proofs.YtnfdepafmmibaaaDoor

/-! Paths of elements as lists of pairs; two elements that lead to the same root give two pairs with the same digest. Conditions: none. -/
set_option linter.unusedVariables false
namespace Go.Proofs.YtnfdepafmmibaaaDoor

theorem last_snoc (l : List Dig) (d : Dig) (sh : Bool) : Pt.last ⟨l ++ [d], sh⟩ = (d, ⟨l, sh⟩) := by
  unfold Pt.last
  rw [if_neg (by simp)]
  simp [List.getD_eq_getElem?_getD]
end Go.Proofs.YtnfdepafmmibaaaDoor

/-! The checks accept the proofs of hash trees, and refuse other roots. Conditions: none. -/
set_option linter.unusedVariables false
namespace Go.Proofs.YtnfdepafmmibaaaDoor

theorem getD_take {l : List Dig} {i k : Nat} (h : i < k) : (l.take k).getD i Dig.zero = l.getD i Dig.zero := by
  rw [List.getD_eq_getElem?_getD, List.getD_eq_getElem?_getD, List.getElem?_take_of_lt h]
theorem getD_drop {l : List Dig} {i k : Nat} : (l.drop k).getD i Dig.zero = l.getD (k + i) Dig.zero := by
  rw [List.getD_eq_getElem?_getD, List.getD_eq_getElem?_getD, List.getElem?_drop]
theorem climbI_ok : ∀ (j : Nat) (l : List Dig) (i : Nat) (pre : List Dig) (sh : Bool), l.length ≤ j → i < l.length →
    climbI (l.getD i Dig.zero) i l.length ⟨pre ++ inclD l i, sh⟩ = (rootD l, ⟨pre, sh⟩)
  | 0, l, i, pre, sh, h, hi => by omega
  | j + 1, l, i, pre, sh, h, hi => by
    by_cases h1 : l.length ≤ 1
    · rw [climbI_1 h1, inclD_1 h1, List.append_nil, rootD_1 (by omega)]
      obtain rfl : i = 0 := by omega
      rfl
    · have a1 := splitN_lt (n := l.length) (by omega)
      have a0 := splitN_pos l.length
      by_cases hs : i < splitN l.length
      · have r := climbI_ok j (l.take (splitN l.length)) i pre sh (by rw [List.length_take]; omega) (by rw [List.length_take]; omega)
        rw [List.length_take, Nat.min_eq_left (by omega), getD_take hs] at r
        rw [inclD_lo (by omega) hs, climbI_lo (by omega) hs, ← List.append_assoc, last_snoc]
        simp only [r]
        rw [rootD_2 (l := l) (by omega)]
      · have r := climbI_ok j (l.drop (splitN l.length)) (i - splitN l.length) pre sh (by rw [List.length_drop]; omega) (by rw [List.length_drop]; omega)
        rw [List.length_drop, getD_drop, show splitN l.length + (i - splitN l.length) = i by omega] at r
        rw [inclD_hi (by omega) hs, climbI_hi (by omega) hs, ← List.append_assoc, last_snoc]
        simp only [r]
        rw [rootD_2 (l := l) (by omega)]
/-- Not a power of 2. -/
def NoPow (m : Nat) : Prop := ∀ e : Nat, m ≠ 2 ^ e
theorem climbC_ok : ∀ (j : Nat) (l : List Dig) (m : Nat) (mark : Bool) (old : Dig) (pre : List Dig) (sh : Bool), l.length ≤ j → 1 ≤ m → m ≤ l.length →
    (mark = true → old = rootD (l.take m) ∨ (m < l.length ∧ NoPow m)) →
    climbC old m l.length mark ⟨pre ++ consD l m mark, sh⟩ = ((rootD (l.take m), rootD l), ⟨pre, sh⟩)
  | 0, l, m, mark, old, pre, sh, h, h1, h2, ho => by omega
  | j + 1, l, m, mark, old, pre, sh, h, h1, h2, ho => by
    by_cases he : m = l.length
    · subst he
      rw [climbC_all, consD_all, List.take_length]
      rw [List.take_length] at ho
      cases mark with
      | true =>
        rcases ho rfl with ho | ho
        · rw [ho, if_pos rfl, if_pos rfl, List.append_nil]
        · omega
      | false =>
        rw [if_neg (by decide), if_neg (by decide), last_snoc]
    · have a1 := splitN_lt (n := l.length) (by omega)
      have a0 := splitN_pos l.length
      by_cases hs : m ≤ splitN l.length
      · have r := climbC_ok j (l.take (splitN l.length)) m mark old pre sh (by rw [List.length_take]; omega) h1 (by rw [List.length_take]; omega) (by
          intro hm
          rw [List.take_take, Nat.min_eq_left hs, List.length_take, Nat.min_eq_left (by omega)]
          rcases ho hm with ho | ⟨ho1, ho2⟩
          · exact .inl ho
          · exact .inr ⟨Nat.lt_of_le_of_ne hs (ho2 _), ho2⟩)
        rw [List.length_take, Nat.min_eq_left (by omega), List.take_take, Nat.min_eq_left hs] at r
        rw [consD_lo he (by omega) hs, climbC_lo he (by omega) hs, ← List.append_assoc, last_snoc]
        simp only [r]
        rw [rootD_2 (l := l) (by omega)]
      · have r := climbC_ok j (l.drop (splitN l.length)) (m - splitN l.length) false old pre sh (by rw [List.length_drop]; omega) (by omega) (by rw [List.length_drop]; omega) (by intro hm; cases hm)
        rw [List.length_drop] at r
        rw [consD_hi he (by omega) hs, climbC_hi he (by omega) hs, ← List.append_assoc, last_snoc]
        simp only [r]
        rw [rootD_2 (l := l) (by omega)]
        have hlm : (l.take m).length = m := by rw [List.length_take]; omega
        have hsm : splitN (l.take m).length = splitN l.length := by
          rw [hlm]
          have hg := splitN_ge (n := l.length) (by omega)
          exact (splitN_unique (n := m) (e := Nat.log2 (l.length - 1)) (by omega) (by have : splitN l.length = 2 ^ Nat.log2 (l.length - 1) := rfl; omega) (by have : splitN l.length = 2 ^ Nat.log2 (l.length - 1) := rfl; omega)).symm
        rw [rootD_2 (l := l.take m) (by rw [hlm]; omega), hsm, List.take_take, Nat.min_eq_left (by omega)]
        have hd : (l.take m).drop (splitN l.length) = (l.drop (splitN l.length)).take (m - splitN l.length) := by rw [List.drop_take]
        rw [hd]
theorem asc_from (n : Int) : ∀ (l : List Int) (last : Int), Asc l → (∀ i ∈ l, last < i ∧ i < n) → ascFrom n last l = true
  | [], _, _, _ => rfl
  | i :: r, last, h, hb => by
    obtain ⟨h1, h2⟩ := List.pairwise_cons.1 h
    have hi := hb i (List.mem_cons_self ..)
    rw [ascFrom, if_neg (by omega)]
    exact asc_from n r i h2 fun j hj => ⟨h1 j hj, (hb j (List.mem_cons_of_mem _ hj)).2⟩
def pick (l : List Dig) (a : Int) (ps : List Int) : List Dig := ps.map fun i => l.getD (i - a).toNat Dig.zero
theorem first_cons (d : Dig) (r : List Dig) (sh : Bool) : Pt.first ⟨d :: r, sh⟩ = (d, ⟨r, sh⟩) := rfl
theorem climbM_ok : ∀ (j : Nat) (l : List Dig) (a : Int) (ps : List Int) (post fpost : List Dig) (sh sf : Bool), l.length ≤ j → 1 ≤ l.length → Asc ps → (∀ i ∈ ps, a ≤ i ∧ i < a + l.length) →
    climbM a l.length ps ⟨manyD l a ps ++ post, sh⟩ ⟨pick l a ps ++ fpost, sf⟩ = (rootD l, ⟨post, sh⟩, ⟨fpost, sf⟩)
  | 0, l, a, ps, post, fpost, sh, sf, h, h1, hp, hb => by omega
  | j + 1, l, a, ps, post, fpost, sh, sf, h, h1, hp, hb => by
    by_cases h0 : ps.length = 0
    · have : ps = [] := List.eq_nil_of_length_eq_zero h0
      subst this
      rw [climbM_0 h0, manyD_0 h0]
      rfl
    · by_cases hl : l.length ≤ 1
      · rw [climbM_1 h0 hl, manyD_1 h0 hl, rootD_1 (by omega)]
        obtain ⟨i, r, rfl⟩ : ∃ i r, ps = i :: r := by
          cases ps with
          | nil => simp at h0
          | cons i r => exact ⟨i, r, rfl⟩
        have hi := hb i (List.mem_cons_self ..)
        obtain rfl : i = a := by omega
        have hr : r = [] := by
          cases r with
          | nil => rfl
          | cons q r =>
            have h2 := (List.pairwise_cons.1 hp).1 q (List.mem_cons_self ..)
            have h3 := hb q (List.mem_cons_of_mem _ (List.mem_cons_self ..))
            omega
        subst hr
        have e : (i - i).toNat = 0 := by omega
        simp only [pick, List.map_cons, List.map_nil, e, List.nil_append, List.cons_append, first_cons]
      · have s1 := splitN_lt (n := l.length) (by omega)
        have s0 := splitN_pos l.length
        have f1 : fl a (a + splitN l.length) ps = ps.take (cutN (a + splitN l.length) ps) := fl_take hp fun i hi => (hb i hi).1
        have f2 : fl (a + splitN l.length) (a + l.length) ps = ps.drop (cutN (a + splitN l.length) ps) := fl_drop hp fun i hi => (hb i hi).2
        have m1 : ∀ i ∈ ps.take (cutN (a + splitN l.length) ps), a ≤ i ∧ i < a + splitN l.length := fun i hi => by rw [← f1] at hi; exact fl_mem hi
        have m2 : ∀ i ∈ ps.drop (cutN (a + splitN l.length) ps), a + splitN l.length ≤ i ∧ i < a + l.length := fun i hi => by rw [← f2] at hi; exact fl_mem hi
        rw [climbM_2 h0 (by omega), manyD_2 h0 (by omega), rootD_2 (l := l) (by omega)]
        have hps : pick l a ps = pick (l.take (splitN l.length)) a (ps.take (cutN (a + splitN l.length) ps)) ++ pick (l.drop (splitN l.length)) (a + splitN l.length) (ps.drop (cutN (a + splitN l.length) ps)) := by
          have : pick l a ps = pick l a (ps.take (cutN (a + splitN l.length) ps)) ++ pick l a (ps.drop (cutN (a + splitN l.length) ps)) := by
            unfold pick
            rw [← List.map_append, List.take_append_drop]
          rw [this]
          congr 1
          · apply List.map_congr_left
            intro i hi
            have := m1 i hi
            exact (getD_take (by omega)).symm
          · apply List.map_congr_left
            intro i hi
            have := m2 i hi
            rw [getD_drop]
            congr 1
            omega
        rw [hps, List.append_assoc, List.append_assoc]
        have lt : (l.take (splitN l.length)).length = splitN l.length := by rw [List.length_take]; omega
        have ld : (l.drop (splitN l.length)).length = l.length - splitN l.length := by rw [List.length_drop]
        generalize cutN (a + splitN l.length) ps = K at *
        have r1 := climbM_ok j (l.take (splitN l.length)) a (ps.take K) (manyD (l.drop (splitN l.length)) (a + splitN l.length) (ps.drop K) ++ post) (pick (l.drop (splitN l.length)) (a + splitN l.length) (ps.drop K) ++ fpost) sh sf (by omega) (by omega) (hp.take K) (by rw [lt]; exact m1)
        have r2 := climbM_ok j (l.drop (splitN l.length)) (a + splitN l.length) (ps.drop K) post fpost sh sf (by omega) (by omega) (hp.drop K) (by rw [ld]; intro i hi; have := m2 i hi; omega)
        rw [lt] at r1
        rw [ld] at r2
        rw [r1]
        simp only [r2]
end Go.Proofs.YtnfdepafmmibaaaDoor

/-! Arrays of whole numbers are equal if all their cells are. Conditions: none (each rule bears its own). -/
set_option linter.unusedVariables false
set_option linter.unusedSimpArgs false
namespace Go.Proofs.YtnfdepafmmibaaaDoor
open Go

theorem pureRun_bind {α β : Type} (P : Program) (e : Sem α) (f : α → Sem β) : pureRun P (e >>= f) = (pureRun P e).bind fun a => pureRun P (f a) := by
  induction e with
  | pure a => rfl
  | program k ih => exact ih P
  | _ => rfl
theorem pureRun_pure {α : Type} (P : Program) (a : α) : pureRun P (pure a : Sem α) = some a := rfl
theorem pureRun_underlying (P : Program) (t : TypeId) (u : TypeDesc) (h : P.underlying t = some u) : pureRun P (underlying t) = some u := by
  unfold underlying
  rw [pureRun_bind]
  show pureRun P (match P.underlying t with | some u => _ | none => _) = some u
  rw [h]
  rfl
theorem pureRun_typeInfo (P : Program) (t : TypeId) (i : TypeInfo) (h : P.info? t = some i) : pureRun P (typeInfo t) = some i := by
  unfold typeInfo
  rw [pureRun_bind]
  show pureRun P (match P.info? t with | some u => _ | none => _) = some i
  rw [h]
  rfl
theorem pureRun_sizeOf (P : Program) (t : TypeId) (i : TypeInfo) (h : P.info? t = some i) : pureRun P (sizeOf t) = some i.size := by
  unfold sizeOf
  rw [pureRun_bind, pureRun_typeInfo P t i h]
  rfl
theorem pureRun_isAgg (P : Program) (t : TypeId) (k : IntKind) (h : P.underlying t = some (.int k)) : pureRun P (isAgg t) = some false := by
  unfold isAgg
  rw [pureRun_bind, pureRun_underlying P t _ h]
  rfl
theorem pureRun_part (P : Program) (t : TypeId) (k : IntKind) (h : P.underlying t = some (.int k)) (cs : Array Value) (off : Nat) (v : Value) (hv : cs[off]? = some v) : pureRun P (part t cs off) = some v := by
  unfold part
  rw [pureRun_bind, pureRun_isAgg P t k h]
  simp only [Option.bind_some, Bool.false_eq_true, if_false, hv]
  rfl
theorem pureRun_eqInt (P : Program) (d : Nat) (t : TypeId) (k : IntKind) (h : P.underlying t = some (.int k)) (a b : Int) : pureRun P (Op.equalIn (d + 1) t (.int k a) (.int k b)) = some (a == b) := by
  unfold Op.equalIn
  rw [pureRun_bind, pureRun_underlying P t _ h]
  simp only [Option.bind_some, if_true]
  rfl
/-- The loop over the cells. -/
theorem eq_loop (P : Program) (body : Nat → Option Bool × Unit → Sem (ForInStep (Option Bool × Unit))) (f : Nat → Bool) : ∀ (is : List Nat),
    (∀ i ∈ is, pureRun P (body i (none, ())) = some (if f i = true then ForInStep.yield (none, ()) else ForInStep.done (some false, ()))) →
    pureRun P (forIn is (none, ()) body) = some (if is.all f = true then (none, ()) else (some false, ()))
  | [], _ => rfl
  | i :: is, h => by
    rw [List.forIn_cons, pureRun_bind, h i (.head _)]
    cases hf : f i with
    | false => simp [hf]; rfl
    | true =>
      simp only [hf, if_true, Option.bind_some, List.all_cons, Bool.true_and]
      exact eq_loop P body f is (fun j hj => h j (.tail _ hj))
theorem eq_array (P : Program) (d : Nat) (t e : TypeId) (len : Nat) (k : IntKind) (i : TypeInfo) (hu : P.underlying t = some (.array len e)) (he : P.underlying e = some (.int k)) (hi : P.info? e = some i) (hs : i.size = 1)
    (xs ys : List Int) (hx : xs.length = len) (hy : ys.length = len) :
    pureRun P (Op.equalIn (d + 2) t (.agg (xs.map (Value.int k)).toArray) (.agg (ys.map (Value.int k)).toArray)) = some (decide (xs = ys)) := by
  unfold Op.equalIn
  rw [pureRun_bind, pureRun_underlying P t _ hu]
  simp only [Option.bind_some]
  rw [pureRun_bind, pureRun_sizeOf P e i hi]
  simp only [Option.bind_some, hs, Nat.mul_one]
  rw [pureRun_bind, Std.Legacy.Range.forIn_eq_forIn_range']
  rw [eq_loop P _ (fun j => xs.getD j 0 == ys.getD j 0)]
  · simp only [Option.bind_some]
    have key : ((List.range' 0 len).all fun j => xs.getD j 0 == ys.getD j 0) = decide (xs = ys) := by
      by_cases h : xs = ys
      · subst h
        simp
      · rw [decide_eq_false h, Bool.eq_false_iff]
        intro hall
        apply h
        apply List.ext_getElem (by omega)
        intro j h1 h2
        have := List.all_eq_true.1 hall j (by simp [List.mem_range']; omega)
        simp only [beq_iff_eq, List.getD_eq_getElem?_getD, List.getElem?_eq_getElem h1, List.getElem?_eq_getElem h2, Option.getD_some] at this
        exact this
    have hr : (List.range' 0 { start := 0, stop := len, step := 1, step_pos := Nat.one_pos : Std.Legacy.Range }.size 1) = List.range' 0 len := by simp [Std.Legacy.Range.size]
    rw [hr, key]
    by_cases h : xs = ys <;> simp [h, pureRun_pure]
  · intro j hj
    have hjl : j < len := by simpa [List.mem_range', Std.Legacy.Range.size] using hj
    have h1 : ((xs.map (Value.int k)).toArray)[j]? = some (.int k (xs.getD j 0)) := by
      rw [List.getElem?_toArray, List.getElem?_map, List.getD_eq_getElem?_getD, List.getElem?_eq_getElem (by omega)]; rfl
    have h2 : ((ys.map (Value.int k)).toArray)[j]? = some (.int k (ys.getD j 0)) := by
      rw [List.getElem?_toArray, List.getElem?_map, List.getD_eq_getElem?_getD, List.getElem?_eq_getElem (by omega)]; rfl
    rw [pureRun_bind, pureRun_part P e k he _ _ _ h1]
    simp only [Option.bind_some]
    rw [pureRun_bind, pureRun_part P e k he _ _ _ h2]
    simp only [Option.bind_some]
    rw [pureRun_bind, pureRun_eqInt P d e k he]
    simp only [Option.bind_some]
    cases hq : (xs.getD j 0 == ys.getD j 0) <;> rfl
theorem a_eql (P : Program) (t e : TypeId) (len : Nat) (k : IntKind) (i : TypeInfo) (hg : P.eqGuardType P.depth t = false) (hu : P.underlying t = some (.array len e)) (he : P.underlying e = some (.int k)) (hi : P.info? e = some i) (hs : i.size = 1)
    (xs ys : List Int) (hx : xs.length = len) (hy : ys.length = len) :
    aBin P .eql t (.agg (xs.map fun a => .v (.int k a))) (.agg (ys.map fun a => .v (.int k a))) = some (vb (decide (xs = ys))) ∧
    aBin P .neq t (.agg (xs.map fun a => .v (.int k a))) (.agg (ys.map fun a => .v (.int k a))) = some (vb (decide (¬ xs = ys))) := by
  have hv : ∀ l : List Int, (AV.agg (l.map fun a => .v (.int k a))).val = some (.agg (l.map (Value.int k)).toArray) := by
    intro l
    have : vals (l.map fun a => AV.v (.int k a)) = some (l.map (Value.int k)) := by
      induction l with
      | nil => rfl
      | cons a l ih => simp only [List.map_cons, vals, ih, Option.map_some]
    simp only [AV.val, this, Option.map_some]
  have e1 := eq_array P 9998 t e len k i hu he hi hs xs ys hx hy
  have eg : ∀ op x y a b, pureRun P (eqGuard op t x y (.agg a) (.agg b)) = some () := by
    intro op x y a b
    have hc : pureRun P (do
        if !(← program).eqGuardType (← program).depth t then return
        if ← Op.eqGuardIn Op.maxDepth t (.agg a) (.agg b) then unsupported (.noEntry "binop/eql: two nil values of an interface type with methods, in a part of a struct or an array")) = some () := by
      rw [pureRun_bind]
      show Option.bind (some P) _ = _
      simp only [Option.bind_some]
      rw [pureRun_bind]
      show Option.bind (some P) _ = _
      simp only [Option.bind_some, hg, Bool.not_false, if_true]
      rfl
    cases op <;> first | exact hc | rfl
  constructor
  · simp only [aBin, hv, aBinV, nilIfaces, Bool.false_eq_true, if_false, binSem]
    rw [pureRun_bind, eg]
    simp only [Option.bind_some, binOp]
    rw [pureRun_bind]
    show Option.map ofVal (Option.bind (pureRun P (Op.equalIn 10000 t _ _)) _) = _
    rw [e1]
    rfl
  · simp only [aBin, hv, aBinV, nilIfaces, Bool.false_eq_true, if_false, binSem]
    rw [pureRun_bind, eg]
    simp only [Option.bind_some, binOp]
    rw [pureRun_bind]
    show Option.map ofVal (Option.bind (pureRun P (Op.equalIn 10000 t _ _)) _) = _
    rw [e1]
    by_cases h : xs = ys <;> simp [h, pureRun_pure, ofVal, ofCell, scalar]
end Go.Proofs.YtnfdepafmmibaaaDoor

