/- Hash trees as plain functions of lists of digests | Checks of hash trees' proofs as plain functions: a path that is taken from both ends | Places in hash trees as plain functions: ascending places, the proof for several elements and its check | Places between two positions, and the reference's walk, as plain functions | Ones of a number, counted by parts, as plain arithmetic | The zeros at a number's end, as plain arithmetic | Peaks grow as the lists do: the roots of a list's greatest complete parts | Arrays of whole numbers are equal if all their cells are. Conditions: none. -/
import Derived.Test.YtnfdepafmmibaaaDoorR5
/-! Hash trees as plain functions of lists of digests. Conditions: none; definitions and small facts. -/
set_option linter.unusedVariables false
namespace Go.Proofs.YtnfdepafmmibaaaDoor

/-- The greatest power of 2 below n (at least 2). -/
def splitN (n : Nat) : Nat := 2 ^ Nat.log2 (n - 1)
theorem splitN_pos (n : Nat) : 0 < splitN n := Nat.two_pow_pos _
theorem splitN_lt {n : Nat} (h : 2 ≤ n) : splitN n < n := by
  have := Nat.log2_self_le (n := n - 1) (by omega)
  unfold splitN; omega
theorem splitN_unique {n e : Nat} (h : 2 ≤ n) (h1 : 2 ^ e < n) (h2 : n ≤ 2 * 2 ^ e) : 2 ^ e = splitN n := by
  unfold splitN
  congr 1
  exact ((Nat.log2_eq_iff (by omega)).2 ⟨by omega, by rw [Nat.pow_succ]; omega⟩).symm
/-- The root of a list. -/
def rootD (l : List Dig) : Dig :=
  if h0 : l.length = 0 then emptyD
  else if h1 : l.length = 1 then l.getD 0 Dig.zero
  else nodeD (rootD (l.take (splitN l.length))) (rootD (l.drop (splitN l.length)))
termination_by l.length
decreasing_by
  · have := splitN_lt (n := l.length) (by omega)
    rw [List.length_take]; omega
  · have := splitN_pos l.length
    rw [List.length_drop]; omega
theorem rootD_0 {l : List Dig} (h : l.length = 0) : rootD l = emptyD := by rw [rootD, dif_pos h]
theorem rootD_1 {l : List Dig} (h : l.length = 1) : rootD l = l.getD 0 Dig.zero := by rw [rootD, dif_neg (by omega), dif_pos h]
theorem rootD_2 {l : List Dig} (h : 2 ≤ l.length) : rootD l = nodeD (rootD (l.take (splitN l.length))) (rootD (l.drop (splitN l.length))) := by rw [rootD, dif_neg (by omega), dif_neg (by omega)]
/-- The proof of an element. -/
def inclD (l : List Dig) (i : Nat) : List Dig :=
  if h1 : l.length ≤ 1 then []
  else if i < splitN l.length then inclD (l.take (splitN l.length)) i ++ [rootD (l.drop (splitN l.length))]
  else inclD (l.drop (splitN l.length)) (i - splitN l.length) ++ [rootD (l.take (splitN l.length))]
termination_by l.length
decreasing_by
  · have := splitN_lt (n := l.length) (by omega)
    rw [List.length_take]; omega
  · have := splitN_pos l.length
    rw [List.length_drop]; omega
theorem inclD_1 {l : List Dig} {i : Nat} (h : l.length ≤ 1) : inclD l i = [] := by rw [inclD, dif_pos h]
theorem inclD_lo {l : List Dig} {i : Nat} (h : 2 ≤ l.length) (hi : i < splitN l.length) : inclD l i = inclD (l.take (splitN l.length)) i ++ [rootD (l.drop (splitN l.length))] := by
  rw [inclD, dif_neg (by omega), if_pos hi]
theorem inclD_hi {l : List Dig} {i : Nat} (h : 2 ≤ l.length) (hi : ¬ i < splitN l.length) : inclD l i = inclD (l.drop (splitN l.length)) (i - splitN l.length) ++ [rootD (l.take (splitN l.length))] := by
  rw [inclD, dif_neg (by omega), if_neg hi]
theorem inclD_len (k : Nat) : ∀ (l : List Dig) (i : Nat), l.length = k → (inclD l i).length ≤ k := by
  induction k using Nat.strongRecOn with
  | _ k ih =>
    intro l i hl
    by_cases h : l.length ≤ 1
    · rw [inclD_1 h]; simp
    · have h1 := splitN_lt (n := l.length) (by omega)
      have h0 := splitN_pos l.length
      by_cases hi : i < splitN l.length
      · rw [inclD_lo (by omega) hi, List.length_append, List.length_singleton]
        have := ih (splitN l.length) (by omega) (l.take (splitN l.length)) i (by rw [List.length_take]; omega)
        omega
      · rw [inclD_hi (by omega) hi, List.length_append, List.length_singleton]
        have := ih (l.length - splitN l.length) (by omega) (l.drop (splitN l.length)) (i - splitN l.length) (by rw [List.length_drop])
        omega
/-- The proof of a beginning. -/
def consD (l : List Dig) (m : Nat) (mark : Bool) : List Dig :=
  if m = l.length then (if mark = true then [] else [rootD l])
  else if h1 : l.length ≤ 1 then []
  else if m ≤ splitN l.length then consD (l.take (splitN l.length)) m mark ++ [rootD (l.drop (splitN l.length))]
  else consD (l.drop (splitN l.length)) (m - splitN l.length) false ++ [rootD (l.take (splitN l.length))]
termination_by l.length
decreasing_by
  · have := splitN_lt (n := l.length) (by omega)
    rw [List.length_take]; omega
  · have := splitN_pos l.length
    rw [List.length_drop]; omega
theorem consD_all {l : List Dig} {mark : Bool} : consD l l.length mark = if mark = true then [] else [rootD l] := by rw [consD, if_pos rfl]
theorem consD_lo {l : List Dig} {m : Nat} {mark : Bool} (hm : m ≠ l.length) (h : 2 ≤ l.length) (hi : m ≤ splitN l.length) : consD l m mark = consD (l.take (splitN l.length)) m mark ++ [rootD (l.drop (splitN l.length))] := by
  rw [consD, if_neg hm, dif_neg (by omega), if_pos hi]
theorem consD_hi {l : List Dig} {m : Nat} {mark : Bool} (hm : m ≠ l.length) (h : 2 ≤ l.length) (hi : ¬ m ≤ splitN l.length) : consD l m mark = consD (l.drop (splitN l.length)) (m - splitN l.length) false ++ [rootD (l.take (splitN l.length))] := by
  rw [consD, if_neg hm, dif_neg (by omega), if_neg hi]
theorem consD_len (k : Nat) : ∀ (l : List Dig) (m : Nat) (mark : Bool), l.length = k → (consD l m mark).length ≤ k + 1 := by
  induction k using Nat.strongRecOn with
  | _ k ih =>
    intro l m mark hl
    by_cases he : m = l.length
    · subst he
      rw [consD_all]
      split <;> simp
    · by_cases h : l.length ≤ 1
      · rw [consD, if_neg he, dif_pos h]; simp
      · have h1 := splitN_lt (n := l.length) (by omega)
        have h0 := splitN_pos l.length
        by_cases hi : m ≤ splitN l.length
        · rw [consD_lo he (by omega) hi, List.length_append, List.length_singleton]
          have := ih (splitN l.length) (by omega) (l.take (splitN l.length)) m mark (by rw [List.length_take]; omega)
          omega
        · rw [consD_hi he (by omega) hi, List.length_append, List.length_singleton]
          have := ih (l.length - splitN l.length) (by omega) (l.drop (splitN l.length)) (m - splitN l.length) false (by rw [List.length_drop])
          omega
end Go.Proofs.YtnfdepafmmibaaaDoor

/-! Checks of hash trees' proofs as plain functions: a path that is taken from both ends. Conditions: none; definitions and small facts. -/
set_option linter.unusedVariables false
namespace Go.Proofs.YtnfdepafmmibaaaDoor

/-- A path that is gone through, and whether it has had too few digests. -/
structure Pt where
  l : List Dig
  sh : Bool
def Pt.last (p : Pt) : Dig × Pt := if p.l.length = 0 then (Dig.zero, ⟨p.l, true⟩) else (p.l.getD (p.l.length - 1) Dig.zero, ⟨p.l.take (p.l.length - 1), p.sh⟩)
def Pt.first (p : Pt) : Dig × Pt := if p.l.length = 0 then (Dig.zero, ⟨p.l, true⟩) else (p.l.getD 0 Dig.zero, ⟨p.l.drop 1, p.sh⟩)
theorem Pt.last_len (p : Pt) : p.last.2.l.length ≤ p.l.length := by
  unfold Pt.last; split
  · exact Nat.le_refl _
  · simp only [List.length_take]; omega
theorem Pt.first_len (p : Pt) : p.first.2.l.length ≤ p.l.length := by
  unfold Pt.first; split
  · exact Nat.le_refl _
  · simp only [List.length_drop]; omega
/-- The root that an element's path leads to. -/
def climbI (leaf : Dig) (i n : Nat) (p : Pt) : Dig × Pt :=
  if h : n ≤ 1 then (leaf, p)
  else if i < splitN n then
    (nodeD (climbI leaf i (splitN n) p.last.2).1 p.last.1, (climbI leaf i (splitN n) p.last.2).2)
  else (nodeD p.last.1 (climbI leaf (i - splitN n) (n - splitN n) p.last.2).1, (climbI leaf (i - splitN n) (n - splitN n) p.last.2).2)
termination_by n
decreasing_by
  all_goals
    have := splitN_lt (n := n) (by omega)
    have := splitN_pos n
    omega
theorem climbI_1 {leaf : Dig} {i n : Nat} {p : Pt} (h : n ≤ 1) : climbI leaf i n p = (leaf, p) := by rw [climbI, dif_pos h]
theorem climbI_lo {leaf : Dig} {i n : Nat} {p : Pt} (h : 2 ≤ n) (hi : i < splitN n) : climbI leaf i n p = (nodeD (climbI leaf i (splitN n) p.last.2).1 p.last.1, (climbI leaf i (splitN n) p.last.2).2) := by
  rw [climbI, dif_neg (by omega), if_pos hi]
theorem climbI_hi {leaf : Dig} {i n : Nat} {p : Pt} (h : 2 ≤ n) (hi : ¬ i < splitN n) : climbI leaf i n p = (nodeD p.last.1 (climbI leaf (i - splitN n) (n - splitN n) p.last.2).1, (climbI leaf (i - splitN n) (n - splitN n) p.last.2).2) := by
  rw [climbI, dif_neg (by omega), if_neg hi]
def settled (ok : Bool) (p : Pt) : Bool := ok && !p.sh && decide (p.l.length = 0)
def checkI (leaf : Dig) (i n : Int) (l : List Dig) (root : Dig) : Bool :=
  if n < 1 ∨ 1099511627776 < n ∨ i < 0 ∨ n ≤ i then false
  else settled (decide ((climbI leaf i.toNat n.toNat ⟨l, false⟩).1 = root)) (climbI leaf i.toNat n.toNat ⟨l, false⟩).2
/-- The two roots that a beginning's path leads to. -/
def climbC (old : Dig) (m n : Nat) (mark : Bool) (p : Pt) : (Dig × Dig) × Pt :=
  if m = n then (if mark = true then ((old, old), p) else ((p.last.1, p.last.1), p.last.2))
  else if h : n ≤ 1 then ((old, old), p)
  else if m ≤ splitN n then
    (((climbC old m (splitN n) mark p.last.2).1.1, nodeD (climbC old m (splitN n) mark p.last.2).1.2 p.last.1), (climbC old m (splitN n) mark p.last.2).2)
  else ((nodeD p.last.1 (climbC old (m - splitN n) (n - splitN n) false p.last.2).1.1, nodeD p.last.1 (climbC old (m - splitN n) (n - splitN n) false p.last.2).1.2), (climbC old (m - splitN n) (n - splitN n) false p.last.2).2)
termination_by n
decreasing_by
  all_goals
    have := splitN_lt (n := n) (by omega)
    have := splitN_pos n
    omega
theorem climbC_all {old : Dig} {n : Nat} {mark : Bool} {p : Pt} : climbC old n n mark p = if mark = true then ((old, old), p) else ((p.last.1, p.last.1), p.last.2) := by rw [climbC, if_pos rfl]
theorem climbC_lo {old : Dig} {m n : Nat} {mark : Bool} {p : Pt} (hm : m ≠ n) (h : 2 ≤ n) (hi : m ≤ splitN n) : climbC old m n mark p =
    (((climbC old m (splitN n) mark p.last.2).1.1, nodeD (climbC old m (splitN n) mark p.last.2).1.2 p.last.1), (climbC old m (splitN n) mark p.last.2).2) := by
  rw [climbC, if_neg hm, dif_neg (by omega), if_pos hi]
theorem climbC_hi {old : Dig} {m n : Nat} {mark : Bool} {p : Pt} (hm : m ≠ n) (h : 2 ≤ n) (hi : ¬ m ≤ splitN n) : climbC old m n mark p =
    ((nodeD p.last.1 (climbC old (m - splitN n) (n - splitN n) false p.last.2).1.1, nodeD p.last.1 (climbC old (m - splitN n) (n - splitN n) false p.last.2).1.2), (climbC old (m - splitN n) (n - splitN n) false p.last.2).2) := by
  rw [climbC, if_neg hm, dif_neg (by omega), if_neg hi]
def checkC (m n : Int) (old root : Dig) (l : List Dig) : Bool :=
  if m < 0 ∨ n < m ∨ 1099511627776 < n then false
  else if m = 0 then settled (decide (old = emptyD)) ⟨l, false⟩
  else settled (decide ((climbC old m.toNat n.toNat true ⟨l, false⟩).1.1 = old) && decide ((climbC old m.toNat n.toNat true ⟨l, false⟩).1.2 = root)) (climbC old m.toNat n.toNat true ⟨l, false⟩).2
end Go.Proofs.YtnfdepafmmibaaaDoor

/-! Places in hash trees as plain functions: ascending places, the proof for several elements and its check. Conditions: none; definitions and small facts. -/
set_option linter.unusedVariables false
namespace Go.Proofs.YtnfdepafmmibaaaDoor

/-- Places are strictly ascending, after a last one, and less than n. -/
def ascFrom (n : Int) : Int → List Int → Bool
  | _, [] => true
  | last, i :: r => if i ≤ last ∨ n ≤ i then false else ascFrom n i r
/-- Strictly ascending numbers. -/
def Asc (l : List Int) : Prop := l.Pairwise (· < ·)
theorem ascFrom_asc (n : Int) : ∀ (l : List Int) (last : Int), ascFrom n last l = true → (∀ i ∈ l, last < i ∧ i < n) ∧ Asc l
  | [], _, _ => ⟨by simp, List.Pairwise.nil⟩
  | i :: r, last, h => by
    rw [ascFrom] at h
    split at h
    · cases h
    · rename_i h1
      obtain ⟨h2, h3⟩ := ascFrom_asc n r i h
      refine ⟨?_, List.pairwise_cons.2 ⟨fun j hj => (h2 j hj).1, h3⟩⟩
      intro j hj
      rcases List.mem_cons.1 hj with rfl | hj
      · omega
      · have := h2 j hj; omega
/-- How many places lie before a position. -/
def cutN (t : Int) (l : List Int) : Nat := (l.takeWhile fun i => decide (i < t)).length
theorem cutN_le (t : Int) (l : List Int) : cutN t l ≤ l.length := (List.takeWhile_sublist _).length_le
theorem cutN_iff (t : Int) : ∀ (l : List Int), Asc l → ∀ k : Nat, k < l.length → (l.getD k 0 < t ↔ k < cutN t l)
  | [], _, k, hk => by simp at hk
  | i :: r, h, k, hk => by
    obtain ⟨h1, h2⟩ := List.pairwise_cons.1 h
    unfold cutN
    rw [List.takeWhile_cons]
    by_cases hi : i < t
    · rw [if_pos (by simpa using hi)]
      cases k with
      | zero => simp [hi]
      | succ k =>
        have := cutN_iff t r h2 k (by simpa using hk)
        simp only [List.getD_cons_succ, List.length_cons, Nat.add_lt_add_iff_right]
        exact this
    · rw [if_neg (by simpa using hi)]
      simp only [List.length_nil, Nat.not_lt_zero, iff_false]
      cases k with
      | zero => simpa using hi
      | succ k =>
        have hk' : k < r.length := by simpa using hk
        have := h1 (r.getD k 0) (by rw [List.getD_eq_getElem?_getD, List.getElem?_eq_getElem hk']; simp)
        simp only [List.getD_cons_succ]; omega
theorem Asc.take {l : List Int} (h : Asc l) (k : Nat) : Asc (l.take k) := List.Pairwise.sublist (List.take_sublist k l) h
theorem Asc.drop {l : List Int} (h : Asc l) (k : Nat) : Asc (l.drop k) := List.Pairwise.sublist (List.drop_sublist k l) h
/-- The proof for several elements of a part that begins at a position. -/
def manyD (l : List Dig) (a : Int) (ps : List Int) : List Dig :=
  if ps.length = 0 then [rootD l]
  else if h : l.length ≤ 1 then []
  else manyD (l.take (splitN l.length)) a (ps.take (cutN (a + splitN l.length) ps)) ++ manyD (l.drop (splitN l.length)) (a + splitN l.length) (ps.drop (cutN (a + splitN l.length) ps))
termination_by l.length
decreasing_by
  all_goals
    have := splitN_lt (n := l.length) (by omega)
    have := splitN_pos l.length
    simp only [List.length_take, List.length_drop]
    omega
theorem manyD_0 {l : List Dig} {a : Int} {ps : List Int} (h : ps.length = 0) : manyD l a ps = [rootD l] := by rw [manyD, if_pos h]
theorem manyD_1 {l : List Dig} {a : Int} {ps : List Int} (h : ¬ ps.length = 0) (h1 : l.length ≤ 1) : manyD l a ps = [] := by rw [manyD, if_neg h, dif_pos h1]
theorem manyD_2 {l : List Dig} {a : Int} {ps : List Int} (h : ¬ ps.length = 0) (h1 : 2 ≤ l.length) : manyD l a ps =
    manyD (l.take (splitN l.length)) a (ps.take (cutN (a + splitN l.length) ps)) ++ manyD (l.drop (splitN l.length)) (a + splitN l.length) (ps.drop (cutN (a + splitN l.length) ps)) := by
  rw [manyD, if_neg h, dif_neg (by omega)]
theorem manyD_len (n : Nat) : ∀ (l : List Dig), l.length = n → 1 ≤ n → ∀ (a : Int) (ps : List Int), (manyD l a ps).length ≤ n := by
  induction n using Nat.strongRecOn with
  | _ n ih =>
  intro l hn h0 a ps
  by_cases h : ps.length = 0
  · rw [manyD_0 h]; simpa using h0
  · by_cases h1 : l.length ≤ 1
    · rw [manyD_1 h h1]; simp
    · have hs := splitN_lt (n := n) (by omega)
      have hs0 := splitN_pos n
      rw [manyD_2 h (by omega), List.length_append, hn]
      have r1 := ih (splitN n) hs (l.take (splitN n)) (by rw [List.length_take]; omega) (by omega) a (ps.take (cutN (a + splitN n) ps))
      have r2 := ih (n - splitN n) (by omega) (l.drop (splitN n)) (by rw [List.length_drop]; omega) (by omega) (a + splitN n) (ps.drop (cutN (a + splitN n) ps))
      omega
def manyE (l : List Dig) (ps : List Int) : List Dig × Int :=
  if ascFrom l.length (-1) ps = true then (if 0 < l.length then manyD l 0 ps else [], 0) else ([], 1)
/-- The root that several elements' path leads to. -/
def climbM (a : Int) (n : Nat) (ps : List Int) (p q : Pt) : Dig × Pt × Pt :=
  if ps.length = 0 then (p.first.1, p.first.2, q)
  else if h : n ≤ 1 then (q.first.1, p, q.first.2)
  else
    (nodeD (climbM a (splitN n) (ps.take (cutN (a + splitN n) ps)) p q).1
        (climbM (a + splitN n) (n - splitN n) (ps.drop (cutN (a + splitN n) ps)) (climbM a (splitN n) (ps.take (cutN (a + splitN n) ps)) p q).2.1 (climbM a (splitN n) (ps.take (cutN (a + splitN n) ps)) p q).2.2).1,
      (climbM (a + splitN n) (n - splitN n) (ps.drop (cutN (a + splitN n) ps)) (climbM a (splitN n) (ps.take (cutN (a + splitN n) ps)) p q).2.1 (climbM a (splitN n) (ps.take (cutN (a + splitN n) ps)) p q).2.2).2)
termination_by n
decreasing_by
  all_goals
    have := splitN_lt (n := n) (by omega)
    have := splitN_pos n
    omega
theorem climbM_0 {a : Int} {n : Nat} {ps : List Int} {p q : Pt} (h : ps.length = 0) : climbM a n ps p q = (p.first.1, p.first.2, q) := by rw [climbM, if_pos h]
theorem climbM_1 {a : Int} {n : Nat} {ps : List Int} {p q : Pt} (h : ¬ ps.length = 0) (h1 : n ≤ 1) : climbM a n ps p q = (q.first.1, p, q.first.2) := by rw [climbM, if_neg h, dif_pos h1]
theorem climbM_2 {a : Int} {n : Nat} {ps : List Int} {p q : Pt} (h : ¬ ps.length = 0) (h1 : 2 ≤ n) : climbM a n ps p q =
    (nodeD (climbM a (splitN n) (ps.take (cutN (a + splitN n) ps)) p q).1
        (climbM (a + splitN n) (n - splitN n) (ps.drop (cutN (a + splitN n) ps)) (climbM a (splitN n) (ps.take (cutN (a + splitN n) ps)) p q).2.1 (climbM a (splitN n) (ps.take (cutN (a + splitN n) ps)) p q).2.2).1,
      (climbM (a + splitN n) (n - splitN n) (ps.drop (cutN (a + splitN n) ps)) (climbM a (splitN n) (ps.take (cutN (a + splitN n) ps)) p q).2.1 (climbM a (splitN n) (ps.take (cutN (a + splitN n) ps)) p q).2.2).2) := by
  rw [climbM, if_neg h, dif_neg (by omega)]
theorem climbM_len (n : Nat) : ∀ (a : Int) (ps : List Int) (p q : Pt), (climbM a n ps p q).2.1.l.length ≤ p.l.length ∧ (climbM a n ps p q).2.2.l.length ≤ q.l.length := by
  induction n using Nat.strongRecOn with
  | _ n ih =>
  intro a ps p q
  by_cases h : ps.length = 0
  · rw [climbM_0 h]; exact ⟨p.first_len, Nat.le_refl _⟩
  · by_cases h1 : n ≤ 1
    · rw [climbM_1 h h1]; exact ⟨Nat.le_refl _, q.first_len⟩
    · have hs := splitN_lt (n := n) (by omega)
      have hs0 := splitN_pos n
      rw [climbM_2 h (by omega)]
      have r1 := ih (splitN n) hs a (ps.take (cutN (a + splitN n) ps)) p q
      have r2 := ih (n - splitN n) (by omega) (a + splitN n) (ps.drop (cutN (a + splitN n) ps)) (climbM a (splitN n) (ps.take (cutN (a + splitN n) ps)) p q).2.1 (climbM a (splitN n) (ps.take (cutN (a + splitN n) ps)) p q).2.2
      exact ⟨Nat.le_trans r2.1 r1.1, Nat.le_trans r2.2 r1.2⟩
def checkM (n : Int) (ps : List Int) (found l : List Dig) (root : Dig) : Bool :=
  if n < 0 ∨ 1099511627776 < n ∨ ¬ ascFrom n (-1) ps = true ∨ ¬ found.length = ps.length then false
  else if n = 0 then settled (decide (root = emptyD)) ⟨l, false⟩
  else settled (decide ((climbM 0 n.toNat ps ⟨l, false⟩ ⟨found, false⟩).1 = root)) (climbM 0 n.toNat ps ⟨l, false⟩ ⟨found, false⟩).2.1
end Go.Proofs.YtnfdepafmmibaaaDoor

/-! Places between two positions, and the reference's walk, as plain functions. Conditions: none; definitions and small facts. -/
set_option linter.unusedVariables false
namespace Go.Proofs.YtnfdepafmmibaaaDoor

end Go.Proofs.YtnfdepafmmibaaaDoor

/-! Ones of a number, counted by parts, as plain arithmetic. Conditions: none. -/
set_option linter.unusedVariables false
set_option maxRecDepth 20000
namespace Go.Proofs.YtnfdepafmmibaaaDoor

theorem and_split (a b c d : Nat) (ha : a < 256) (hc : c < 256) : (a + 256 * b) &&& (c + 256 * d) = (a &&& c) + 256 * (b &&& d) := by
  have hac : a &&& c < 2 ^ 8 := Nat.and_lt_two_pow _ hc
  apply Nat.eq_of_testBit_eq
  intro i
  have e : ∀ x y : Nat, x < 256 → (x + 256 * y).testBit i = if i < 8 then x.testBit i else y.testBit (i - 8) := by
    intro x y hx
    rw [Nat.add_comm, show 256 = 2 ^ 8 from rfl, Nat.testBit_two_pow_mul_add _ hx]
  rw [Nat.testBit_and, e a b ha, e c d hc, e _ _ hac]
  split <;> rw [Nat.testBit_and]
/-- A mask of k bytes. -/
def mk (m : Nat) : Nat → Nat
  | 0 => 0
  | k + 1 => m + 256 * mk m k
/-- The sum of a number's bytes, each by f. -/
def byt (f : Nat → Nat) : Nat → Nat → Nat
  | 0, _ => 0
  | k + 1, x => f (x % 256) + 256 * byt f k (x / 256)
def po1 (a : Nat) : Nat := ((a / 2) &&& 85) + (a &&& 85)
def po2 (a : Nat) : Nat := ((a / 4) &&& 51) + (a &&& 51)
theorem po1_k : ∀ k x : Nat, x < 256 ^ k → ((x / 2) &&& mk 85 k) + (x &&& mk 85 k) = byt po1 k x
  | 0, x, h => by simp [mk, byt]
  | k + 1, x, h => by
    have hk : x / 256 < 256 ^ k := by rw [Nat.pow_succ] at h; omega
    have ih := po1_k k (x / 256) hk
    have hx : x = x % 256 + 256 * (x / 256) := by omega
    have hx2 : x / 2 = (x % 256 / 2 + 128 * (x / 256 % 2)) + 256 * (x / 256 / 2) := by omega
    have key : ∀ a, a < 256 → ∀ r, r < 2 → (a / 2 + 128 * r) &&& 85 = (a / 2) &&& 85 := by decide +kernel
    have k1 := key (x % 256) (by omega) (x / 256 % 2) (by omega)
    rw [mk, byt, ← ih, hx2, and_split _ _ _ _ (by omega) (by omega), k1]
    have k2 := and_split (x % 256) (x / 256) 85 (mk 85 k) (by omega) (by omega)
    rw [← hx] at k2
    rw [k2, po1]
    omega
theorem po2_k : ∀ k x : Nat, x < 256 ^ k → ((x / 4) &&& mk 51 k) + (x &&& mk 51 k) = byt po2 k x
  | 0, x, h => by simp [mk, byt]
  | k + 1, x, h => by
    have hk : x / 256 < 256 ^ k := by rw [Nat.pow_succ] at h; omega
    have ih := po2_k k (x / 256) hk
    have hx : x = x % 256 + 256 * (x / 256) := by omega
    have hx2 : x / 4 = (x % 256 / 4 + 64 * (x / 256 % 4)) + 256 * (x / 256 / 4) := by omega
    have key : ∀ a, a < 256 → ∀ r, r < 4 → (a / 4 + 64 * r) &&& 51 = (a / 4) &&& 51 := by decide +kernel
    have k1 := key (x % 256) (by omega) (x / 256 % 4) (by omega)
    rw [mk, byt, ← ih, hx2, and_split _ _ _ _ (by omega) (by omega), k1]
    have k2 := and_split (x % 256) (x / 256) 51 (mk 51 k) (by omega) (by omega)
    rw [← hx] at k2
    rw [k2, po2]
    omega
theorem byt_lt (f : Nat → Nat) (h : ∀ a, a < 256 → f a < 256) : ∀ k x, byt f k x < 256 ^ k
  | 0, x => by simp [byt]
  | k + 1, x => by
    have := byt_lt f h k (x / 256)
    have h1 := h (x % 256) (by omega)
    rw [byt, Nat.pow_succ]; omega
theorem byt_le (f : Nat → Nat) (c : Nat) (h : ∀ a, a < 256 → f a ≤ c) : ∀ k x, byt f k x ≤ c * mk 1 k
  | 0, x => by simp [byt]
  | k + 1, x => by
    have := byt_le f c h k (x / 256)
    have h1 := h (x % 256) (by omega)
    rw [byt, mk, Nat.mul_add, Nat.mul_one, Nat.mul_left_comm]; omega
theorem byt_byt (f g : Nat → Nat) (h : ∀ a, a < 256 → f a < 256) : ∀ k x, byt g k (byt f k x) = byt (fun a => g (f a)) k x
  | 0, x => rfl
  | k + 1, x => by
    have h1 := h (x % 256) (by omega)
    have e1 : (f (x % 256) + 256 * byt f k (x / 256)) % 256 = f (x % 256) := by omega
    have e2 : (f (x % 256) + 256 * byt f k (x / 256)) / 256 = byt f k (x / 256) := by omega
    rw [byt, byt, byt, e1, e2, byt_byt f g h k]
def po3 (a : Nat) : Nat := a / 16 + a % 16
theorem po3_k (f : Nat → Nat) (h : ∀ a, a < 256 → f a % 16 ≤ 4 ∧ f a / 16 ≤ 4) : ∀ k x, (byt f k x / 16 + byt f k x) &&& mk 15 k = byt (fun a => po3 (f a)) k x
  | 0, x => by simp [mk, byt]
  | k + 1, x => by
    have h1 := h (x % 256) (by omega)
    have ih := po3_k f h k (x / 256)
    have hb : byt f k (x / 256) % 16 ≤ 4 := by
      cases k with
      | zero => simp [byt]
      | succ k => rw [byt]; have := h (x / 256 % 256) (by omega); omega
    rw [byt, byt, mk, ← ih]
    generalize byt f k (x / 256) = b at *
    generalize f (x % 256) = a at *
    have e : (a + 256 * b) / 16 + (a + 256 * b) = (a / 16 + a + 16 * (b % 16)) + 256 * (b / 16 + b) := by omega
    rw [e, and_split _ _ _ _ (by omega) (by omega), show (15 : Nat) = 2 ^ 4 - 1 from rfl, Nat.and_two_pow_sub_one_eq_mod, po3]
    omega
/-- The bytes' sum. -/
def bsum (f : Nat → Nat) : Nat → Nat → Nat
  | 0, _ => 0
  | k + 1, x => f (x % 256) + bsum f k (x / 256)
theorem ones_step (x : Nat) : ones x = x % 2 + ones (x / 2) := by
  by_cases h : x = 0
  · subst h; rw [ones, if_pos rfl]
  · rw [ones, if_neg h]
theorem ones_byte (x : Nat) : ones x = po3 (po2 (po1 (x % 256))) + ones (x / 256) := by
  have key : ∀ a, a < 256 → po3 (po2 (po1 a)) = a % 2 + a / 2 % 2 + a / 4 % 2 + a / 8 % 2 + a / 16 % 2 + a / 32 % 2 + a / 64 % 2 + a / 128 % 2 := by decide +kernel
  rw [key _ (by omega), ones_step x, ones_step (x / 2), ones_step (x / 2 / 2), ones_step (x / 2 / 2 / 2), ones_step (x / 2 / 2 / 2 / 2), ones_step (x / 2 / 2 / 2 / 2 / 2), ones_step (x / 2 / 2 / 2 / 2 / 2 / 2), ones_step (x / 2 / 2 / 2 / 2 / 2 / 2 / 2)]
  rw [show x / 2 / 2 / 2 / 2 / 2 / 2 / 2 / 2 = x / 256 by omega]
  omega
theorem ones_bsum : ∀ k x, x < 256 ^ k → ones x = bsum (fun a => po3 (po2 (po1 a))) k x
  | 0, x, h => by
    obtain rfl : x = 0 := by simpa using h
    rw [ones, if_pos rfl]; rfl
  | k + 1, x, h => by
    rw [ones_byte, bsum, ones_bsum k (x / 256) (by rw [Nat.pow_succ] at h; omega)]
theorem fin8 (c0 c1 c2 c3 c4 c5 c6 c7 y : Nat) (h0 : c0 ≤ 8) (h1 : c1 ≤ 8) (h2 : c2 ≤ 8) (h3 : c3 ≤ 8) (h4 : c4 ≤ 8) (h5 : c5 ≤ 8) (h6 : c6 ≤ 8) (h7 : c7 ≤ 8)
    (hy : y = c0 + 256 * (c1 + 256 * (c2 + 256 * (c3 + 256 * (c4 + 256 * (c5 + 256 * (c6 + 256 * (c7 + 256 * 0)))))))) :
    (((y + y / 256) + (y + y / 256) / 65536) + ((y + y / 256) + (y + y / 256) / 65536) / 4294967296) % 128 = c0 + (c1 + (c2 + (c3 + (c4 + (c5 + (c6 + (c7 + 0))))))) := by
  have e1 : y / 256 = c1 + 256 * (c2 + 256 * (c3 + 256 * (c4 + 256 * (c5 + 256 * (c6 + 256 * c7))))) := by omega
  rw [e1]
  have e2 : (y + (c1 + 256 * (c2 + 256 * (c3 + 256 * (c4 + 256 * (c5 + 256 * (c6 + 256 * c7))))))) / 65536 = (c2 + c3) + 256 * ((c3 + c4) + 256 * ((c4 + c5) + 256 * ((c5 + c6) + 256 * ((c6 + c7) + 256 * c7)))) := by
    clear e1; omega
  rw [e2]
  have e3 : (y + (c1 + 256 * (c2 + 256 * (c3 + 256 * (c4 + 256 * (c5 + 256 * (c6 + 256 * c7)))))) + ((c2 + c3) + 256 * ((c3 + c4) + 256 * ((c4 + c5) + 256 * ((c5 + c6) + 256 * ((c6 + c7) + 256 * c7)))))) / 4294967296
      = (c4 + c5 + c6 + c7) + 256 * ((c5 + c6 + c7) + 256 * ((c6 + c7) + 256 * c7)) := by
    clear e1 e2; omega
  rw [e3]
  clear e1 e2 e3
  omega
/-- Go's way to count ones. -/
theorem ones_go (x : Nat) (h : x < 2 ^ 64) : ∃ y, byt (fun a => po3 (po2 (po1 a))) 8 x = y ∧ y < 2 ^ 60 ∧
    (((y + y / 256) + (y + y / 256) / 65536) + ((y + y / 256) + (y + y / 256) / 65536) / 4294967296) % 128 = ones x := by
  have hb : ∀ a, a < 256 → po3 (po2 (po1 a)) ≤ 8 := by decide +kernel
  rw [ones_bsum 8 x (by simpa using h)]
  refine ⟨_, rfl, ?_, ?_⟩
  all_goals
    simp only [byt, bsum]
    have b0 := hb (x % 256) (by omega)
    have b1 := hb (x / 256 % 256) (by omega)
    have b2 := hb (x / 256 / 256 % 256) (by omega)
    have b3 := hb (x / 256 / 256 / 256 % 256) (by omega)
    have b4 := hb (x / 256 / 256 / 256 / 256 % 256) (by omega)
    have b5 := hb (x / 256 / 256 / 256 / 256 / 256 % 256) (by omega)
    have b6 := hb (x / 256 / 256 / 256 / 256 / 256 / 256 % 256) (by omega)
    have b7 := hb (x / 256 / 256 / 256 / 256 / 256 / 256 / 256 % 256) (by omega)
    generalize po3 (po2 (po1 (x % 256))) = c0 at *
    generalize po3 (po2 (po1 (x / 256 % 256))) = c1 at *
    generalize po3 (po2 (po1 (x / 256 / 256 % 256))) = c2 at *
    generalize po3 (po2 (po1 (x / 256 / 256 / 256 % 256))) = c3 at *
    generalize po3 (po2 (po1 (x / 256 / 256 / 256 / 256 % 256))) = c4 at *
    generalize po3 (po2 (po1 (x / 256 / 256 / 256 / 256 / 256 % 256))) = c5 at *
    generalize po3 (po2 (po1 (x / 256 / 256 / 256 / 256 / 256 / 256 % 256))) = c6 at *
    generalize po3 (po2 (po1 (x / 256 / 256 / 256 / 256 / 256 / 256 / 256 % 256))) = c7 at *
  · omega
  · exact fin8 c0 c1 c2 c3 c4 c5 c6 c7 _ b0 b1 b2 b3 b4 b5 b6 b7 rfl
end Go.Proofs.YtnfdepafmmibaaaDoor

/-! The zeros at a number's end, as plain arithmetic. Conditions: none. -/
set_option linter.unusedVariables false
set_option maxRecDepth 20000
namespace Go.Proofs.YtnfdepafmmibaaaDoor

/-- How many zeros are at a number's end. -/
def ctz (x : Nat) : Nat := if x = 0 then 64 else if x % 2 = 1 then 0 else ctz (x / 2) + 1
termination_by x
decreasing_by omega
theorem and2 (a b r s : Nat) (hr : r < 2) (hs : s < 2) : (2 * a + r) &&& (2 * b + s) = 2 * (a &&& b) + (r &&& s) := by
  have hrs : r &&& s < 2 ^ 1 := Nat.and_lt_two_pow _ hs
  apply Nat.eq_of_testBit_eq
  intro i
  have e : ∀ x y : Nat, y < 2 → (2 * x + y).testBit i = if i < 1 then y.testBit i else x.testBit (i - 1) := by
    intro x y hy
    have := Nat.testBit_two_pow_mul_add (i := 1) x hy i
    simpa using this
  rw [Nat.testBit_and, e a r hr, e b s hs, e _ _ hrs]
  split <;> rw [Nat.testBit_and]
theorem and_compl : ∀ (n m : Nat), m < 2 ^ n → m &&& (2 ^ n - (m + 1)) = 0 := by
  intro n m h
  apply Nat.eq_of_testBit_eq
  intro i
  rw [Nat.testBit_and, Nat.testBit_two_pow_sub_succ h, Nat.zero_testBit]
  cases m.testBit i <;> simp
theorem and_neg : ∀ (n x : Nat), 0 < x → x < 2 ^ n → x &&& (2 ^ n - x) = 2 ^ ctz x
  | 0, x, h0, h => by simp at h; omega
  | n + 1, x, h0, h => by
    rw [Nat.pow_succ] at h
    by_cases h1 : x % 2 = 1
    · have e1 : x = 2 * (x / 2) + 1 := by omega
      have e2 : 2 ^ (n + 1) - x = 2 * (2 ^ n - (x / 2 + 1)) + 1 := by rw [Nat.pow_succ]; omega
      have e3 := and2 (x / 2) (2 ^ n - (x / 2 + 1)) 1 1 (by omega) (by omega)
      rw [and_compl n (x / 2) (by omega), ← e2, ← e1] at e3
      rw [e3, ctz, if_neg (by omega), if_pos h1]
      rfl
    · have e1 : x = 2 * (x / 2) + 0 := by omega
      have e2 : 2 ^ (n + 1) - x = 2 * (2 ^ n - x / 2) + 0 := by rw [Nat.pow_succ]; omega
      have e3 := and2 (x / 2) (2 ^ n - x / 2) 0 0 (by omega) (by omega)
      rw [and_neg n (x / 2) (by omega) (by omega), ← e2, ← e1] at e3
      rw [e3, ctz.eq_def x, if_neg (by omega), if_neg h1, Nat.pow_succ]
      simp; omega
theorem ctz_lt : ∀ (n x : Nat), 0 < x → x < 2 ^ n → ctz x < n
  | 0, x, h0, h => by simp at h; omega
  | n + 1, x, h0, h => by
    rw [Nat.pow_succ] at h
    rw [ctz, if_neg (by omega)]
    split
    · omega
    · have := ctz_lt n (x / 2) (by omega) (by omega); omega
theorem ctz_not : ∀ (n s : Nat), s + 1 < 2 ^ n → ctz (2 ^ n - 1 - s) = carry s
  | 0, s, h => by simp at h
  | n + 1, s, h => by
    rw [Nat.pow_succ] at h ⊢
    rw [ctz, carry, if_neg (by omega)]
    by_cases h1 : s % 2 = 1
    · rw [if_neg (by omega), if_pos h1, show (2 ^ n * 2 - 1 - s) / 2 = 2 ^ n - 1 - s / 2 by omega, ctz_not n (s / 2) (by omega)]
    · rw [if_pos (by omega), if_neg h1]
end Go.Proofs.YtnfdepafmmibaaaDoor

/-! Peaks grow as the lists do: the roots of a list's greatest complete parts. Conditions: none. -/
set_option linter.unusedVariables false
namespace Go.Proofs.YtnfdepafmmibaaaDoor

/-- The greatest power of 2 that is no more than n (1 at least). -/
def topP2 (n : Nat) : Nat := 2 ^ Nat.log2 n
theorem topP2_pos (n : Nat) : 0 < topP2 n := Nat.two_pow_pos _
theorem topP2_le {n : Nat} (h : 1 ≤ n) : topP2 n ≤ n := Nat.log2_self_le (by omega)
theorem topP2_gt (n : Nat) : n < 2 * topP2 n := by
  have := Nat.lt_log2_self (n := n)
  unfold topP2
  rw [Nat.pow_succ] at this
  omega
theorem topP2_unique {n k : Nat} (h1 : 2 ^ k ≤ n) (h2 : n < 2 * 2 ^ k) : topP2 n = 2 ^ k := by
  unfold topP2
  congr 1
  have h0 := Nat.two_pow_pos k
  exact (Nat.log2_eq_iff (by omega)).2 ⟨h1, by rw [Nat.pow_succ]; omega⟩
/-- The roots of the complete parts of a list, the greatest first. -/
def topsOf (l : List Dig) : List Dig :=
  if h : l.length = 0 then [] else rootD (l.take (topP2 l.length)) :: topsOf (l.drop (topP2 l.length))
termination_by l.length
decreasing_by
  have := topP2_pos l.length
  rw [List.length_drop]; omega
theorem topsOf_0 {l : List Dig} (h : l.length = 0) : topsOf l = [] := by rw [topsOf, dif_pos h]
theorem topsOf_1 {l : List Dig} (h : 1 ≤ l.length) : topsOf l = rootD (l.take (topP2 l.length)) :: topsOf (l.drop (topP2 l.length)) := by rw [topsOf, dif_neg (by omega)]
theorem ones_pow (k m : Nat) (h : m < 2 ^ k) : ones (2 ^ k + m) = 1 + ones m := by
  induction k generalizing m with
  | zero =>
    obtain rfl : m = 0 := by omega
    simp [ones]
  | succ k ih =>
    rw [Nat.pow_succ] at h ⊢
    have h0 := Nat.two_pow_pos k
    rw [ones, if_neg (by omega), show (2 ^ k * 2 + m) / 2 = 2 ^ k + m / 2 by omega, ih (m / 2) (by omega), show (2 ^ k * 2 + m) % 2 = m % 2 by omega]
    by_cases hm : m = 0
    · subst hm; simp [ones]
    · rw [ones.eq_def m, if_neg hm]; omega
theorem carry_even {n : Nat} (h : n % 2 = 0) : carry n = 0 := by rw [carry, if_neg (by omega)]
theorem carry_odd {n : Nat} (h : n % 2 = 1) : carry n = carry (n / 2) + 1 := by rw [carry, if_pos h]
theorem carry_full (k : Nat) : carry (2 ^ k - 1) = k := by
  induction k with
  | zero => exact carry_even rfl
  | succ k ih =>
    have h0 := Nat.two_pow_pos k
    rw [Nat.pow_succ, carry_odd (by omega), show (2 ^ k * 2 - 1) / 2 = 2 ^ k - 1 by omega, ih]
theorem ones_full (k : Nat) : ones (2 ^ k - 1) = k := by
  induction k with
  | zero => rw [ones, if_pos rfl]
  | succ k ih =>
    have h0 := Nat.two_pow_pos k
    rw [Nat.pow_succ, ones, if_neg (by omega), show (2 ^ k * 2 - 1) / 2 = 2 ^ k - 1 by omega, ih]
    omega
theorem carry_pow (k m : Nat) (h : m + 1 < 2 ^ k) : carry (2 ^ k + m) = carry m := by
  induction k generalizing m with
  | zero => simp at h
  | succ k ih =>
    rw [Nat.pow_succ] at h ⊢
    by_cases hm : m % 2 = 1
    · rw [carry_odd (n := 2 ^ k * 2 + m) (by omega), carry_odd hm, show (2 ^ k * 2 + m) / 2 = 2 ^ k + m / 2 by omega, ih (m / 2) (by omega)]
    · rw [carry_even (n := 2 ^ k * 2 + m) (by omega), carry_even (by omega)]
theorem topsOf_len : ∀ (j : Nat) (l : List Dig), l.length ≤ j → (topsOf l).length = ones l.length
  | 0, l, h => by rw [topsOf_0 (by omega), show l.length = 0 by omega, ones, if_pos rfl]; rfl
  | j + 1, l, h => by
    by_cases h0 : l.length = 0
    · rw [topsOf_0 h0, h0, ones, if_pos rfl]; rfl
    · have h1 := topP2_pos l.length
      have h2 := topP2_le (n := l.length) (by omega)
      have h3 := topP2_gt l.length
      rw [topsOf_1 (by omega), List.length_cons, topsOf_len j _ (by rw [List.length_drop]; omega), List.length_drop]
      have h4 := ones_pow (Nat.log2 l.length) (l.length - topP2 l.length) (by unfold topP2 at *; omega)
      rw [show 2 ^ Nat.log2 l.length + (l.length - topP2 l.length) = l.length by unfold topP2 at *; omega] at h4
      omega
theorem topsOf_pow {l : List Dig} {k : Nat} (h : l.length = 2 ^ k) : topsOf l = [rootD l] := by
  have h0 := Nat.two_pow_pos k
  have h1 : topP2 l.length = l.length := by rw [h]; exact topP2_unique (Nat.le_refl _) (by omega)
  rw [topsOf_1 (by omega), h1, List.take_length, List.drop_length, topsOf_0 rfl]
/-- The root of a list that is longer than a power of 2 by at most it. -/
theorem rootD_split {l : List Dig} {k : Nat} (h1 : 2 ^ k < l.length) (h2 : l.length ≤ 2 * 2 ^ k) : rootD l = nodeD (rootD (l.take (2 ^ k))) (rootD (l.drop (2 ^ k))) := by
  have h0 := Nat.two_pow_pos k
  rw [rootD_2 (by omega), ← splitN_unique (by omega) h1 h2]
theorem foldTops_cons (a : Dig) (l : List Dig) (d : Dig) : foldTops (a :: l) d = nodeD a (foldTops l d) := rfl
/-- The top of the peaks is the root. -/
theorem topsOf_fold : ∀ (j : Nat) (l : List Dig), l.length ≤ j → 1 ≤ l.length → ∃ t, (topsOf l).getLast? = some t ∧ foldTops (topsOf l).dropLast t = rootD l
  | 0, l, h, h1 => by omega
  | j + 1, l, h, h1 => by
    have e1 := topP2_pos l.length
    have e2 := topP2_le (n := l.length) h1
    have e3 := topP2_gt l.length
    by_cases he : topP2 l.length = l.length
    · rw [topsOf_pow (k := Nat.log2 l.length) (by unfold topP2 at he; omega)]
      exact ⟨_, rfl, rfl⟩
    · obtain ⟨t, t1, t2⟩ := topsOf_fold j (l.drop (topP2 l.length)) (by rw [List.length_drop]; omega) (by rw [List.length_drop]; omega)
      rw [topsOf_1 h1]
      have hne : topsOf (l.drop (topP2 l.length)) ≠ [] := fun e => by rw [e] at t1; cases t1
      obtain ⟨a, r, har⟩ := List.exists_cons_of_ne_nil hne
      refine ⟨t, ?_, ?_⟩
      · rw [har, List.getLast?_cons_cons, ← har]; exact t1
      · rw [har, List.dropLast_cons_cons, ← har, foldTops_cons, t2]
        exact (rootD_split (k := Nat.log2 l.length) (by unfold topP2 at *; omega) (by unfold topP2 at *; omega)).symm
/-- One more element. -/
theorem topsOf_grow : ∀ (j : Nat) (l : List Dig) (leaf : Dig), l.length ≤ j →
    (topsOf l).take ((topsOf l).length - carry l.length) ++ [foldTops ((topsOf l).drop ((topsOf l).length - carry l.length)) leaf] = topsOf (l ++ [leaf])
  | j, l, leaf, h => by
    by_cases h0 : l.length = 0
    · have hl : l = [] := List.eq_nil_of_length_eq_zero h0
      subst hl
      rw [topsOf_0 rfl, topsOf_pow (k := 0) rfl, rootD_1 rfl, List.length_nil, Nat.zero_sub]
      rfl
    · match j, h with
      | 0, h => omega
      | j + 1, h =>
        have e1 := topP2_pos l.length
        have e2 := topP2_le (n := l.length) (by omega)
        have e3 := topP2_gt l.length
        obtain ⟨k, hk⟩ : ∃ k, topP2 l.length = 2 ^ k := ⟨_, rfl⟩
        have ih := topsOf_grow j (l.drop (topP2 l.length)) leaf (by rw [List.length_drop]; omega)
        rw [List.length_drop] at ih
        have ho := topsOf_len _ (l.drop (topP2 l.length)) (Nat.le_refl _)
        rw [List.length_drop] at ho
        have hn : l.length = 2 ^ k + (l.length - topP2 l.length) := by omega
        have hap : (l ++ [leaf]).length = l.length + 1 := by simp
        have htk : (l ++ [leaf]).take (2 ^ k) = l.take (2 ^ k) := List.take_append_of_le_length (by omega)
        have hdr : (l ++ [leaf]).drop (2 ^ k) = l.drop (2 ^ k) ++ [leaf] := List.drop_append_of_le_length (by omega)
        rw [topsOf_1 (l := l) (by omega)]
        generalize hm : l.length - topP2 l.length = m at *
        by_cases hf : m + 1 = 2 ^ k
        · have hc : carry l.length = k + 1 := by
            have := carry_full (k + 1)
            rw [show 2 ^ (k + 1) - 1 = l.length by rw [Nat.pow_succ]; omega] at this
            exact this
          have hcm : carry m = k := by have := carry_full k; rwa [show 2 ^ k - 1 = m by omega] at this
          have hom : ones m = k := by have := ones_full k; rwa [show 2 ^ k - 1 = m by omega] at this
          rw [ho, hom, hcm, Nat.sub_self, List.take_zero, List.nil_append, List.drop_zero] at ih
          have hp : topsOf (l.drop (topP2 l.length) ++ [leaf]) = [rootD (l.drop (topP2 l.length) ++ [leaf])] := topsOf_pow (k := k) (by simp; omega)
          rw [hp] at ih
          have ih' : foldTops (topsOf (l.drop (topP2 l.length))) leaf = rootD (l.drop (topP2 l.length) ++ [leaf]) := by simpa using ih
          rw [List.length_cons, ho, hom, hc, Nat.sub_self, List.take_zero, List.nil_append, List.drop_zero, foldTops_cons, ih', topsOf_pow (k := k + 1) (by rw [hap, Nat.pow_succ]; omega),
            rootD_split (l := l ++ [leaf]) (k := k) (by omega) (by omega), htk, hdr, hk]
        · have hc : carry l.length = carry m := by
            have := carry_pow k m (by omega)
            rwa [← hn] at this
          have hle : carry m ≤ ones m := by
            have gen : ∀ (a b : Nat), b ≤ a → carry b ≤ ones b := by
              intro a
              induction a with
              | zero => intro b hb; obtain rfl : b = 0 := by omega
                        rw [carry_even rfl]; omega
              | succ a iha =>
                intro b hb
                by_cases hb0 : b = 0
                · subst hb0; rw [carry_even rfl]; omega
                by_cases h2 : b % 2 = 1
                · have := iha (b / 2) (by omega)
                  rw [carry_odd h2, ones, if_neg hb0]; omega
                · rw [carry_even (by omega)]; omega
            exact gen m m (Nat.le_refl _)
          have htop : topP2 (l ++ [leaf]).length = 2 ^ k := topP2_unique (by omega) (by omega)
          rw [topsOf_1 (l := l ++ [leaf]) (by omega), htop, htk, hdr, ← hk, List.length_cons, ho, hc, show ones m + 1 - carry m = (ones m - carry m) + 1 by omega, List.take_succ_cons, List.drop_succ_cons, List.cons_append, ← ho, ih]
end Go.Proofs.YtnfdepafmmibaaaDoor

/-! Arrays of whole numbers are equal if all their cells are. Conditions: none (each rule bears its own). -/
set_option linter.unusedVariables false
set_option linter.unusedSimpArgs false
namespace Go.Proofs.YtnfdepafmmibaaaDoor
open Go

theorem pureRun_bind {α β : Type} (P : Program) (e : Sem α) (f : α → Sem β) : pureRun P (e >>= f) = (pureRun P e).bind fun a => pureRun P (f a) := by
  induction e with
  | pure a => rfl
  | program k ih => exact ih P
  | _ => rfl
theorem pureRun_pure {α : Type} (P : Program) (a : α) : pureRun P (pure a : Sem α) = some a := rfl
theorem pureRun_underlying (P : Program) (t : TypeId) (u : TypeDesc) (h : P.underlying t = some u) : pureRun P (underlying t) = some u := by
  unfold underlying
  rw [pureRun_bind]
  show pureRun P (match P.underlying t with | some u => _ | none => _) = some u
  rw [h]
  rfl
theorem pureRun_typeInfo (P : Program) (t : TypeId) (i : TypeInfo) (h : P.info? t = some i) : pureRun P (typeInfo t) = some i := by
  unfold typeInfo
  rw [pureRun_bind]
  show pureRun P (match P.info? t with | some u => _ | none => _) = some i
  rw [h]
  rfl
theorem pureRun_sizeOf (P : Program) (t : TypeId) (i : TypeInfo) (h : P.info? t = some i) : pureRun P (sizeOf t) = some i.size := by
  unfold sizeOf
  rw [pureRun_bind, pureRun_typeInfo P t i h]
  rfl
theorem pureRun_isAgg (P : Program) (t : TypeId) (k : IntKind) (h : P.underlying t = some (.int k)) : pureRun P (isAgg t) = some false := by
  unfold isAgg
  rw [pureRun_bind, pureRun_underlying P t _ h]
  rfl
theorem pureRun_part (P : Program) (t : TypeId) (k : IntKind) (h : P.underlying t = some (.int k)) (cs : Array Value) (off : Nat) (v : Value) (hv : cs[off]? = some v) : pureRun P (part t cs off) = some v := by
  unfold part
  rw [pureRun_bind, pureRun_isAgg P t k h]
  simp only [Option.bind_some, Bool.false_eq_true, if_false, hv]
  rfl
theorem pureRun_eqInt (P : Program) (d : Nat) (t : TypeId) (k : IntKind) (h : P.underlying t = some (.int k)) (a b : Int) : pureRun P (Op.equalIn (d + 1) t (.int k a) (.int k b)) = some (a == b) := by
  unfold Op.equalIn
  rw [pureRun_bind, pureRun_underlying P t _ h]
  simp only [Option.bind_some, if_true]
  rfl
/-- The loop over the cells. -/
theorem eq_loop (P : Program) (body : Nat → Option Bool × Unit → Sem (ForInStep (Option Bool × Unit))) (f : Nat → Bool) : ∀ (is : List Nat),
    (∀ i ∈ is, pureRun P (body i (none, ())) = some (if f i = true then ForInStep.yield (none, ()) else ForInStep.done (some false, ()))) →
    pureRun P (forIn is (none, ()) body) = some (if is.all f = true then (none, ()) else (some false, ()))
  | [], _ => rfl
  | i :: is, h => by
    rw [List.forIn_cons, pureRun_bind, h i (.head _)]
    cases hf : f i with
    | false => simp [hf]; rfl
    | true =>
      simp only [hf, if_true, Option.bind_some, List.all_cons, Bool.true_and]
      exact eq_loop P body f is (fun j hj => h j (.tail _ hj))
theorem eq_array (P : Program) (d : Nat) (t e : TypeId) (len : Nat) (k : IntKind) (i : TypeInfo) (hu : P.underlying t = some (.array len e)) (he : P.underlying e = some (.int k)) (hi : P.info? e = some i) (hs : i.size = 1)
    (xs ys : List Int) (hx : xs.length = len) (hy : ys.length = len) :
    pureRun P (Op.equalIn (d + 2) t (.agg (xs.map (Value.int k)).toArray) (.agg (ys.map (Value.int k)).toArray)) = some (decide (xs = ys)) := by
  unfold Op.equalIn
  rw [pureRun_bind, pureRun_underlying P t _ hu]
  simp only [Option.bind_some]
  rw [pureRun_bind, pureRun_sizeOf P e i hi]
  simp only [Option.bind_some, hs, Nat.mul_one]
  rw [pureRun_bind, Std.Legacy.Range.forIn_eq_forIn_range']
  rw [eq_loop P _ (fun j => xs.getD j 0 == ys.getD j 0)]
  · simp only [Option.bind_some]
    have key : ((List.range' 0 len).all fun j => xs.getD j 0 == ys.getD j 0) = decide (xs = ys) := by
      by_cases h : xs = ys
      · subst h
        simp
      · rw [decide_eq_false h, Bool.eq_false_iff]
        intro hall
        apply h
        apply List.ext_getElem (by omega)
        intro j h1 h2
        have := List.all_eq_true.1 hall j (by simp [List.mem_range']; omega)
        simp only [beq_iff_eq, List.getD_eq_getElem?_getD, List.getElem?_eq_getElem h1, List.getElem?_eq_getElem h2, Option.getD_some] at this
        exact this
    have hr : (List.range' 0 { start := 0, stop := len, step := 1, step_pos := Nat.one_pos : Std.Legacy.Range }.size 1) = List.range' 0 len := by simp [Std.Legacy.Range.size]
    rw [hr, key]
    by_cases h : xs = ys <;> simp [h, pureRun_pure]
  · intro j hj
    have hjl : j < len := by simpa [List.mem_range', Std.Legacy.Range.size] using hj
    have h1 : ((xs.map (Value.int k)).toArray)[j]? = some (.int k (xs.getD j 0)) := by
      rw [List.getElem?_toArray, List.getElem?_map, List.getD_eq_getElem?_getD, List.getElem?_eq_getElem (by omega)]; rfl
    have h2 : ((ys.map (Value.int k)).toArray)[j]? = some (.int k (ys.getD j 0)) := by
      rw [List.getElem?_toArray, List.getElem?_map, List.getD_eq_getElem?_getD, List.getElem?_eq_getElem (by omega)]; rfl
    rw [pureRun_bind, pureRun_part P e k he _ _ _ h1]
    simp only [Option.bind_some]
    rw [pureRun_bind, pureRun_part P e k he _ _ _ h2]
    simp only [Option.bind_some]
    rw [pureRun_bind, pureRun_eqInt P d e k he]
    simp only [Option.bind_some]
    cases hq : (xs.getD j 0 == ys.getD j 0) <;> rfl
theorem a_eql (P : Program) (t e : TypeId) (len : Nat) (k : IntKind) (i : TypeInfo) (hg : P.eqGuardType P.depth t = false) (hu : P.underlying t = some (.array len e)) (he : P.underlying e = some (.int k)) (hi : P.info? e = some i) (hs : i.size = 1)
    (xs ys : List Int) (hx : xs.length = len) (hy : ys.length = len) :
    aBin P .eql t (.agg (xs.map fun a => .v (.int k a))) (.agg (ys.map fun a => .v (.int k a))) = some (vb (decide (xs = ys))) ∧
    aBin P .neq t (.agg (xs.map fun a => .v (.int k a))) (.agg (ys.map fun a => .v (.int k a))) = some (vb (decide (¬ xs = ys))) := by
  have hv : ∀ l : List Int, (AV.agg (l.map fun a => .v (.int k a))).val = some (.agg (l.map (Value.int k)).toArray) := by
    intro l
    have : vals (l.map fun a => AV.v (.int k a)) = some (l.map (Value.int k)) := by
      induction l with
      | nil => rfl
      | cons a l ih => simp only [List.map_cons, vals, ih, Option.map_some]
    simp only [AV.val, this, Option.map_some]
  have e1 := eq_array P 9998 t e len k i hu he hi hs xs ys hx hy
  have eg : ∀ op x y a b, pureRun P (eqGuard op t x y (.agg a) (.agg b)) = some () := by
    intro op x y a b
    have hc : pureRun P (do
        if !(← program).eqGuardType (← program).depth t then return
        if ← Op.eqGuardIn Op.maxDepth t (.agg a) (.agg b) then unsupported (.noEntry "binop/eql: two nil values of an interface type with methods, in a part of a struct or an array")) = some () := by
      rw [pureRun_bind]
      show Option.bind (some P) _ = _
      simp only [Option.bind_some]
      rw [pureRun_bind]
      show Option.bind (some P) _ = _
      simp only [Option.bind_some, hg, Bool.not_false, if_true]
      rfl
    cases op <;> first | exact hc | rfl
  constructor
  · simp only [aBin, hv, aBinV, nilIfaces, Bool.false_eq_true, if_false, binSem]
    rw [pureRun_bind, eg]
    simp only [Option.bind_some, binOp]
    rw [pureRun_bind]
    show Option.map ofVal (Option.bind (pureRun P (Op.equalIn 10000 t _ _)) _) = _
    rw [e1]
    rfl
  · simp only [aBin, hv, aBinV, nilIfaces, Bool.false_eq_true, if_false, binSem]
    rw [pureRun_bind, eg]
    simp only [Option.bind_some, binOp]
    rw [pureRun_bind]
    show Option.map ofVal (Option.bind (pureRun P (Op.equalIn 10000 t _ _)) _) = _
    rw [e1]
    by_cases h : xs = ys <;> simp [h, pureRun_pure, ofVal, ofCell, scalar]
end Go.Proofs.YtnfdepafmmibaaaDoor

