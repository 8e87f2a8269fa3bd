/- The machine's operations on typed values, and its memory, as rules | The machine's operations on numbers, truth values and strings, as rules | Slices, arrays and lists of the machine, as rules | SHA-256, digests and hash trees as plain functions | Two functions that range over a function, told as plain functions: what merkle.Append and merkle.Top return. Conditions: none. -/
import Derived.Test.YtnfdepafmmibaaaDoorV2
import Derived.KernelRfl
/-! The machine's operations on typed values, and its memory, as rules. Conditions: none (each rule bears its own). -/
set_option linter.unusedVariables false
set_option linter.unusedSimpArgs false
namespace Go.Proofs.YtnfdepafmmibaaaDoor
open Go

abbrev vi (a : Int) : AV := .v (.int .i64 a)
abbrev vq (a : Nat) : AV := .v (.int .u64 (a : Int))
abbrev vw (a : UInt32) : AV := .v (.int .u32 (a.toNat : Int))
abbrev vy (a : UInt8) : AV := .v (.int .u8 (a.toNat : Int))
abbrev vb (b : Bool) : AV := .v (.bool b)
abbrev vs (l : List UInt8) : AV := .v (.string ⟨l.toArray⟩)

/-! ### Steps -/
theorem gP_none (x : Option AV) : gP none x = x := rfl
theorem gP_gone (b : Bool) (x : Option AV) : gP (some (.tuple [], b)) x = some (.tuple []) := rfl
theorem gS_gone (b : Bool) (s : St) (x : Res) : gS (some (.tuple [], b)) s x = some (.tuple [], s) := rfl
theorem gS_none (s : St) (x : Res) : gS none s x = x := rfl
theorem bind2_some {α : Type} (v : AV) (s : St) (k : AV → St → Option α) : bind2 (some (v, s)) k = k v s := rfl
theorem obind_some {α β : Type} (a : α) (k : α → Option β) : Option.bind (some a) k = k a := rfl
theorem ifA_true {α : Type} (x y : Option α) : ifA (vb true) x y = x := rfl
theorem ifA_false {α : Type} (x y : Option α) : ifA (vb false) x y = y := rfl
theorem ifA_dt {α : Type} {p : Prop} [Decidable p] (x y : Option α) (h : p) : ifA (vb (decide p)) x y = x := by rw [decide_eq_true h]; rfl
theorem ifA_df {α : Type} {p : Prop} [Decidable p] (x y : Option α) (h : ¬ p) : ifA (vb (decide p)) x y = y := by rw [decide_eq_false h]; rfl
theorem gP_tt (x : Option AV) : gP (some (vb true, true)) x = x := rfl
theorem gP_tf (x : Option AV) : gP (some (vb true, false)) x = some (.tuple []) := rfl
theorem gP_ft (x : Option AV) : gP (some (vb false, true)) x = some (.tuple []) := rfl
theorem gP_ff (x : Option AV) : gP (some (vb false, false)) x = x := rfl
theorem gP_dtt {p : Prop} [Decidable p] (x : Option AV) (h : p) : gP (some (vb (decide p), true)) x = x := by rw [decide_eq_true h]; rfl
theorem gP_dtf {p : Prop} [Decidable p] (x : Option AV) (h : p) : gP (some (vb (decide p), false)) x = some (.tuple []) := by rw [decide_eq_true h]; rfl
theorem gP_dft {p : Prop} [Decidable p] (x : Option AV) (h : ¬ p) : gP (some (vb (decide p), true)) x = some (.tuple []) := by rw [decide_eq_false h]; rfl
theorem gP_dff {p : Prop} [Decidable p] (x : Option AV) (h : ¬ p) : gP (some (vb (decide p), false)) x = x := by rw [decide_eq_false h]; rfl
theorem gS_tt (s : St) (x : Res) : gS (some (vb true, true)) s x = x := rfl
theorem gS_tf (s : St) (x : Res) : gS (some (vb true, false)) s x = some (.tuple [], s) := rfl
theorem gS_ft (s : St) (x : Res) : gS (some (vb false, true)) s x = some (.tuple [], s) := rfl
theorem gS_ff (s : St) (x : Res) : gS (some (vb false, false)) s x = x := rfl
theorem gS_dtt {p : Prop} [Decidable p] (s : St) (x : Res) (h : p) : gS (some (vb (decide p), true)) s x = x := by rw [decide_eq_true h]; rfl
theorem gS_dtf {p : Prop} [Decidable p] (s : St) (x : Res) (h : p) : gS (some (vb (decide p), false)) s x = some (.tuple [], s) := by rw [decide_eq_true h]; rfl
theorem gS_dft {p : Prop} [Decidable p] (s : St) (x : Res) (h : ¬ p) : gS (some (vb (decide p), true)) s x = some (.tuple [], s) := by rw [decide_eq_false h]; rfl
theorem gS_dff {p : Prop} [Decidable p] (s : St) (x : Res) (h : ¬ p) : gS (some (vb (decide p), false)) s x = x := by rw [decide_eq_false h]; rfl
theorem aPick_t (x y : AV) : aPick (vb true) x y = some x := rfl
theorem aPick_f (x y : AV) : aPick (vb false) x y = some y := rfl
theorem aPick_dt {p : Prop} [Decidable p] (x y : AV) (h : p) : aPick (vb (decide p)) x y = some x := by rw [decide_eq_true h]; rfl
theorem aPick_df {p : Prop} [Decidable p] (x y : AV) (h : ¬ p) : aPick (vb (decide p)) x y = some y := by rw [decide_eq_false h]; rfl
theorem not_dec (p : Prop) [Decidable p] : (!decide p) = decide (¬ p) := by simp
/-! The next step alone is looked at. -/
theorem obind_congr {α β : Type} {x x' : Option α} (k : α → Option β) (h : x = x') : Option.bind x k = Option.bind x' k := by rw [h]
theorem bind2_congr {α : Type} {x x' : Option (AV × St)} (k : AV → St → Option α) (h : x = x') : bind2 x k = bind2 x' k := by rw [h]
theorem ifA_congr {α : Type} {c c' : AV} (x y : Option α) (h : c = c') : ifA c x y = ifA c' x y := by rw [h]
theorem gP_congr {g g' : Option (AV × Bool)} (x : Option AV) (h : g = g') : gP g x = gP g' x := by rw [h]
theorem gS_congr {g g' : Option (AV × Bool)} (s : St) (x : Res) (h : g = g') : gS g s x = gS g' s x := by rw [h]
theorem needs_congr {α : Type} {l l' : List (Option (Nat × Nat) × St × St)} (x : Option α) (h : l = l') : needs l x = needs l' x := by rw [h]
attribute [congr] obind_congr bind2_congr ifA_congr gP_congr gS_congr needs_congr
theorem needs_nil {α : Type} (x : Option α) : needs [] x = x := rfl
theorem needs_cons {α : Type} (l : Option (Nat × Nat)) (s s' : St) (r : List (Option (Nat × Nat) × St × St)) (x : Option α) (h : chk l s s') : needs ((l, s, s') :: r) x = needs r x := by
  simp only [needs, h, if_true]
theorem chk_same (l : Option (Nat × Nat)) (s : St) : chk l s s := by
  cases l <;> simp [chk]
theorem needs_same {α : Type} (l : Option (Nat × Nat)) (s : St) (r : List (Option (Nat × Nat) × St × St)) (x : Option α) : needs ((l, s, s) :: r) x = needs r x := needs_cons l s s r x (chk_same l s)
theorem needs_none {α : Type} (s s' : St) (r : List (Option (Nat × Nat) × St × St)) (x : Option α) : needs ((none, s, s') :: r) x = needs r x := needs_cons none s s' r x trivial
theorem needs_at2 {α : Type} (d k : Nat) (s s' : St) (r : List (Option (Nat × Nat) × St × St)) (x : Option α) (h : getBlk s d k = getBlk s' d k) : needs ((some (d, k), s, s') :: r) x = needs r x :=
  needs_cons (some (d, k)) s s' r x h
theorem rloc_ptr (d k o : Nat) : rloc (.ptr d k o) = some (d, k) := rfl
theorem rloc_msl (d k o n c : Nat) : rloc (.msl d k o n c) = some (d, k) := rfl
theorem rloc_v (x : Value) : rloc (.v x) = none := rfl
theorem rloc_list (t : Tag) (n : Nat) (cs : List DV) : rloc (.list t n cs) = none := rfl
theorem rloc_lptr (cs : List DV) (o : Nat) : rloc (.lptr cs o) = none := rfl
theorem rloc_agg (cs : List AV) : rloc (.agg cs) = none := rfl
theorem callee_fn (f : FuncId) (caps args : List AV) : calleeV (.fn f caps) args = some (f, args ++ caps) := rfl
theorem callRes_some (cf : CallF) (f : FuncId) (args : List AV) (s : St) : callRes cf (some (f, args)) s = cf f args s := rfl

/-! ### Leaving a call -/
theorem leave_0 (P : Program) (f : Frm) (r : St) : leave P [] (f :: r) = some (.tuple [], r) := rfl
theorem leave_1 (P : Program) (f : Frm) (r : St) (x : AV) : leave P [x] (f :: r) = some (outV r.length f P x, r) := rfl
theorem leave_2 (P : Program) (f : Frm) (r : St) (x y : AV) : leave P [x, y] (f :: r) = some (.tuple [outV r.length f P x, outV r.length f P y], r) := rfl
theorem leave_3 (P : Program) (f : Frm) (r : St) (x y z : AV) : leave P [x, y, z] (f :: r) = some (.tuple [outV r.length f P x, outV r.length f P y, outV r.length f P z], r) := rfl
theorem leaveG_own (P : Program) (f f1 : Frm) (r : St) (d k n : Nat) (cs : List DV) (h1 : d = r.length + 1) (h2 : f.toks[k]? = some n) (h3 : 0 < n) :
    leaveG P [.list (.own d k) n cs] (f :: f1 :: r) = some (.list (.own r.length f1.toks.length) n cs, { f1 with toks := f1.toks ++ [n] } :: r) := by
  unfold leaveG
  simp only
  rw [if_pos ⟨h1, h2, h3⟩]
theorem outV_v (d : Nat) (f : Frm) (P : Program) (x : Value) : outV d f P (.v x) = .v x := rfl
theorem outV_none (d : Nat) (f : Frm) (P : Program) (n : Nat) (cs : List DV) : outV d f P (.list .none n cs) = .list .none n cs := rfl
theorem outV_full (d : Nat) (f : Frm) (P : Program) (n : Nat) (cs : List DV) : outV d f P (.list .full n cs) = .list .full n cs := rfl
theorem outV_own (d : Nat) (f : Frm) (P : Program) (d' k n : Nat) (cs : List DV) (h : ¬ d' < d) : outV d f P (.list (.own d' k) n cs) = .list .none n cs := if_neg h
theorem outV_agg (d : Nat) (f : Frm) (P : Program) (cs : List AV) : outV d f P (.agg cs) = .agg (cs.map bareCell) := rfl
theorem outV_fn0 (d : Nat) (f : Frm) (P : Program) (g : FuncId) : outV d f P (.fn g []) = .fn g [] := rfl
theorem outV_undef (d : Nat) (f : Frm) (P : Program) : outV d f P .undef = .undef := rfl
theorem bare_v (x : Value) : bareCell (.v x) = .v x := rfl
theorem bare_list (t : Tag) (n : Nat) (cs : List DV) : bareCell (.list t n cs) = .list .none n cs := rfl
/-! ### Rounds of loops -/
theorem keep_v (d nb nt : Nat) (x : Value) : keep d nb nt (.v x) = .v x := rfl
theorem keep_none (d nb nt n : Nat) (cs : List DV) : keep d nb nt (.list .none n cs) = .list .none n cs := rfl
theorem keep_full (d nb nt n : Nat) (cs : List DV) : keep d nb nt (.list .full n cs) = .list .full n cs := rfl
theorem keep_own (d nb nt d' k n : Nat) (cs : List DV) (h : d' < d ∨ d' = d ∧ k < nt) : keep d nb nt (.list (.own d' k) n cs) = .list (.own d' k) n cs := if_pos h
theorem keep_ptr (d nb nt d' k o : Nat) (h : d' < d ∨ d' = d ∧ k < nb) : keep d nb nt (.ptr d' k o) = .ptr d' k o := if_pos h
theorem keep_msl (d nb nt d' k o n c : Nat) (h : d' < d ∨ d' = d ∧ k < nb) : keep d nb nt (.msl d' k o n c) = .msl d' k o n c := if_pos h
theorem keep_lptr (d nb nt : Nat) (cs : List DV) (o : Nat) : keep d nb nt (.lptr cs o) = .lptr cs o := rfl
theorem keep_agg (d nb nt : Nat) (cs : List AV) : keep d nb nt (.agg cs) = .agg (cs.map bareCell) := rfl
theorem keep_undef (d nb nt : Nat) : keep d nb nt .undef = .undef := rfl
theorem depth_cons (f : Frm) (r : St) : depth (f :: r) = r.length := by simp [depth]
theorem topB_cons (f : Frm) (r : St) : topB (f :: r) = f.blks.length := rfl
theorem topT_cons (f : Frm) (r : St) : topT (f :: r) = f.toks.length := rfl
theorem trim_cons (nb nt : Nat) (f : Frm) (r : St) : trim nb nt (f :: r) = { blks := f.blks.take nb, toks := if ((f.blks.take nb).all fun b => decide (b.tk ≤ nt)) = true then f.toks.take nt else f.toks } :: r := rfl
theorem rights_cons (nb nt : Nat) (f : Frm) (r : St) : rightsLeft nb nt (f :: r) = if ((f.blks.take nb).all fun b => decide (b.tk ≤ nt)) = true then nt else f.toks.length := rfl

/-! ### Memory -/
theorem getBlk_top (f : Frm) (s : St) (k : Nat) : getBlk (f :: s) s.length k = f.blks[k]? := by
  simp [getBlk, getFr]
theorem getBlk_low (f : Frm) (s : St) (d k : Nat) (h : d ≠ s.length) : getBlk (f :: s) d k = getBlk s d k := by
  simp [getBlk, getFr, h]
theorem setBlk_top (f : Frm) (s : St) (k : Nat) (b : Blk) : setBlk (f :: s) s.length k b = { f with blks := f.blks.set k b } :: s := by
  simp [setBlk, getFr, setFr]
theorem setBlk_low (f : Frm) (s : St) (d k : Nat) (b : Blk) (h : d ≠ s.length) : setBlk (f :: s) d k b = f :: setBlk s d k b := by
  simp only [setBlk, getFr, if_neg h]
  cases getFr s d with
  | none => rfl
  | some g => simp only [setFr, if_neg h]
theorem getTok_top (f : Frm) (s : St) (k : Nat) : getTok (f :: s) s.length k = f.toks[k]? := by
  simp [getTok, getFr]
theorem setTok_top (f : Frm) (s : St) (k n : Nat) : setTok (f :: s) s.length k n = { f with toks := f.toks.set k n } :: s := by
  simp [setTok, getFr, setFr]
theorem getTok_low (f : Frm) (s : St) (d k : Nat) (h : d ≠ s.length) : getTok (f :: s) d k = getTok s d k := by
  simp [getTok, getFr, h]
theorem setTok_low (f : Frm) (s : St) (d k n : Nat) (h : d ≠ s.length) : setTok (f :: s) d k n = f :: setTok s d k n := by
  simp only [setTok, getFr, if_neg h]
  cases getFr s d with
  | none => rfl
  | some g => simp only [setFr, if_neg h]
theorem getBlk_top2 (f f1 : Frm) (s : St) (k : Nat) : getBlk (f :: f1 :: s) (s.length + 1) k = f.blks[k]? := getBlk_top f (f1 :: s) k
theorem setBlk_top2 (f f1 : Frm) (s : St) (k : Nat) (b : Blk) : setBlk (f :: f1 :: s) (s.length + 1) k b = { f with blks := f.blks.set k b } :: f1 :: s := setBlk_top f (f1 :: s) k b
theorem getTok_top2 (f f1 : Frm) (s : St) (k : Nat) : getTok (f :: f1 :: s) (s.length + 1) k = f.toks[k]? := getTok_top f (f1 :: s) k
theorem setTok_top2 (f f1 : Frm) (s : St) (k n : Nat) : setTok (f :: f1 :: s) (s.length + 1) k n = { f with toks := f.toks.set k n } :: f1 :: s := setTok_top f (f1 :: s) k n
/-- Cells that are scalars. -/
def Plain (cs : List AV) : Prop := ∀ x ∈ cs, ∃ y, x = .v y
theorem plain_nil : Plain [] := fun x h => by cases h
theorem plain_cons (y : Value) {cs : List AV} (h : Plain cs) : Plain (.v y :: cs) := by
  intro x hx
  cases List.mem_cons.1 hx with
  | inl e => exact ⟨y, e⟩
  | inr e => exact h x e
theorem plain_map {α : Type} (g : α → Value) (l : List α) : Plain (l.map fun a => AV.v (g a)) := by
  intro x hx
  obtain ⟨a, _, rfl⟩ := List.mem_map.1 hx
  exact ⟨_, rfl⟩
theorem plain_append {a b : List AV} (ha : Plain a) (hb : Plain b) : Plain (a ++ b) := by
  intro x hx
  cases List.mem_append.1 hx with
  | inl e => exact ha x e
  | inr e => exact hb x e
theorem plain_rep (n : Nat) (y : Value) : Plain (List.replicate n (.v y)) := by
  intro x hx
  exact ⟨y, List.eq_of_mem_replicate hx⟩
theorem tok_plain (d : Nat) {cs : List AV} (h : Plain cs) (ts : List Nat) : tokCells d cs ts = (cs, ts) := by
  induction cs with
  | nil => rfl
  | cons x cs ih =>
    obtain ⟨y, rfl⟩ := h x (.head _)
    simp only [tokCells, ih (fun z hz => h z (.tail _ hz))]
theorem fit_v (d k tk : Nat) (x : Value) : fit d k tk (.v x) = .v x := by simp [fit, refOk]
theorem fit_plain (d k tk : Nat) {cs : List AV} (h : Plain cs) : cs.map (fit d k tk) = cs := by
  induction cs with
  | nil => rfl
  | cons x cs ih =>
    obtain ⟨y, rfl⟩ := h x (.head _)
    simp only [List.map_cons, fit_v, ih (fun z hz => h z (.tail _ hz))]
theorem bare_plain {cs : List AV} (h : Plain cs) : cs.map bareCell = cs := by
  induction cs with
  | nil => rfl
  | cons x cs ih =>
    obtain ⟨y, rfl⟩ := h x (.head _)
    simp only [List.map_cons, bareCell, ih (fun z hz => h z (.tail _ hz))]
theorem newBlk_plain (t : TypeId) {cs : List AV} (h : Plain cs) (f : Frm) (r : St) :
    newBlk t cs (f :: r) = some (.ptr r.length f.blks.length 0, { blks := f.blks ++ [{ ty := t, tk := f.toks.length, cells := cs }], toks := f.toks } :: r) := by
  simp only [newBlk, tok_plain _ h, fit_plain _ _ _ h]
theorem aBox_agg (t : TypeId) {cs : List AV} (h : Plain cs) (f : Frm) (r : St) :
    aBox t (.agg cs) (f :: r) = some (.ptr r.length f.blks.length 0, { blks := f.blks ++ [{ ty := t, tk := f.toks.length, cells := cs }], toks := f.toks } :: r) := newBlk_plain t h f r
theorem aBox_v (t : TypeId) (x : Value) (f : Frm) (r : St) :
    aBox t (.v x) (f :: r) = some (.ptr r.length f.blks.length 0, { blks := f.blks ++ [{ ty := t, tk := f.toks.length, cells := [.v x] }], toks := f.toks } :: r) :=
  newBlk_plain t (plain_cons x plain_nil) f r
theorem aLoad_ptr (P : Program) (t : TypeId) {g : Bool} {n : Nat} (ht : tyOf P t = some (g, n)) (d k off : Nat) (s : St) :
    aLoad P t (.ptr d k off) s = (getBlk s d k).bind fun b => if g = true then (if off + n ≤ b.cells.length then some (.agg ((b.cells.drop off).take n)) else none) else b.cells[off]? := by
  simp only [aLoad, ht]
  cases getBlk s d k <;> rfl
theorem aLoad_lptr (P : Program) (t : TypeId) {g : Bool} {n : Nat} (ht : tyOf P t = some (g, n)) (cs : List DV) (off : Nat) (s : St) :
    aLoad P t (.lptr cs off) s = if g = true then (if off + n ≤ cs.length then some (.agg (((cs.drop off).take n).map DV.av)) else none) else (cs[off]?).map DV.av := by
  simp only [aLoad, ht]
theorem aStore_ptr (P : Program) (t : TypeId) {g : Bool} {n : Nat} (ht : tyOf P t = some (g, n)) (d k off : Nat) (y : AV) (s : St) :
    aStore P t (.ptr d k off) y s = y.parts.bind fun ps => (getBlk s d k).bind fun b =>
      if ps.length = n ∧ off + n ≤ b.cells.length then some (.undef, setBlk s d k { b with cells := setAt b.cells off (ps.map (fit d k b.tk)) }) else none := by
  have : ∃ i, P.info? t = some i ∧ i.size = n := by
    unfold tyOf at ht
    cases hu : P.underlying t with
    | none => rw [hu] at ht; cases ht
    | some u =>
      cases hi : P.info? t with
      | none => rw [hu, hi] at ht; cases ht
      | some i =>
        rw [hu, hi] at ht
        cases ht
        exact ⟨i, rfl, rfl⟩
  obtain ⟨i, hi, rfl⟩ := this
  simp only [aStore, hi]
  cases y.parts with
  | none => rfl
  | some ps => cases hb : getBlk s d k <;> simp only [hb] <;> rfl
theorem parts_v (x : Value) : (AV.v x).parts = some [.v x] := rfl
theorem parts_agg (cs : List AV) : (AV.agg cs).parts = some cs := rfl
theorem parts_list (t : Tag) (n : Nat) (cs : List DV) : (AV.list t n cs).parts = some [.list t n cs] := rfl
theorem parts_ptr (d k o : Nat) : (AV.ptr d k o).parts = some [.ptr d k o] := rfl
theorem parts_fn (f : FuncId) (cs : List AV) : (AV.fn f cs).parts = some [.fn f cs] := rfl
theorem setAt_nil (cs : List AV) (off : Nat) : setAt cs off [] = cs := rfl
theorem setAt_cons (cs : List AV) (off : Nat) (x : AV) (r : List AV) : setAt cs off (x :: r) = setAt (cs.set off x) (off + 1) r := rfl
theorem setAt_len (cs : List AV) (off : Nat) (ps : List AV) : (setAt cs off ps).length = cs.length := by
  induction ps generalizing cs off with
  | nil => rfl
  | cons x r ih => rw [setAt_cons, ih, List.length_set]
theorem setAt_eqs (cs : List AV) (off : Nat) (ps : List AV) (h : off + ps.length ≤ cs.length) : setAt cs off ps = cs.take off ++ ps ++ cs.drop (off + ps.length) := by
  induction ps generalizing cs off with
  | nil => simp [setAt_nil]
  | cons x r ih =>
    simp only [List.length_cons] at h
    rw [setAt_cons, ih _ _ (by rw [List.length_set]; omega)]
    rw [List.take_set, List.drop_set_of_lt (by omega)]
    have h1 : (cs.take (off + 1)).set off x = cs.take off ++ [x] := by
      rw [List.take_add_one, List.getElem?_eq_getElem (by omega)]
      simp only [Option.toList_some]
      rw [List.set_append_right _ _ (by simp; omega)]
      have : off - (cs.take off).length = 0 := by simp; omega
      rw [this]
      rfl
    rw [h1]
    simp only [List.append_assoc, List.singleton_append, List.length_cons]
    rw [show off + 1 + r.length = off + (r.length + 1) by omega]
theorem setAt_all (cs ps : List AV) (h : ps.length = cs.length) : setAt cs 0 ps = ps := by
  rw [setAt_eqs _ _ _ (by omega)]
  simp [h]
end Go.Proofs.YtnfdepafmmibaaaDoor

/-! The machine's operations on numbers, truth values and strings, as rules. Conditions: none (each rule bears its own). -/
set_option linter.unusedVariables false
set_option linter.unusedSimpArgs false
set_option maxRecDepth 20000
namespace Go.Proofs.YtnfdepafmmibaaaDoor
open Go

/-! ### Wraps -/
theorem wi_id {a : Int} (h0 : -9223372036854775808 ≤ a) (h1 : a < 9223372036854775808) : IntKind.wrap .i64 a = a := by
  simp only [IntKind.wrap, IntKind.bits, IntKind.signed, Bool.true_and, decide_eq_true_eq, ge_iff_le]
  split <;> omega
theorem wq_id {a : Int} (h0 : 0 ≤ a) (h1 : a < 18446744073709551616) : IntKind.wrap .u64 a = a := by
  simp only [IntKind.wrap, IntKind.bits, IntKind.signed, Bool.false_and, Bool.false_eq_true, if_false]
  omega
theorem wq_mod (a : Int) : IntKind.wrap .u64 a = a % 18446744073709551616 := by
  simp only [IntKind.wrap, IntKind.bits, IntKind.signed, Bool.false_and, Bool.false_eq_true, if_false]
  omega
theorem ww_mod (a : Int) : IntKind.wrap .u32 a = a % 4294967296 := by
  simp only [IntKind.wrap, IntKind.bits, IntKind.signed, Bool.false_and, Bool.false_eq_true, if_false]
  omega
theorem w8_mod (a : Int) : IntKind.wrap .u8 a = a % 256 := by
  simp only [IntKind.wrap, IntKind.bits, IntKind.signed, Bool.false_and, Bool.false_eq_true, if_false]
  omega

/-! ### Any kind of integers -/
theorem b_add (P : Program) (t : TypeId) (k : IntKind) (a b : Int) : aBin P .add t (.v (.int k a)) (.v (.int k b)) = some (.v (.int k (k.wrap (a + b)))) := by
  cases k <;> kernel_rfl
theorem b_sub (P : Program) (t : TypeId) (k : IntKind) (a b : Int) : aBin P .sub t (.v (.int k a)) (.v (.int k b)) = some (.v (.int k (k.wrap (a - b)))) := by
  cases k <;> kernel_rfl
theorem b_mul (P : Program) (t : TypeId) (k : IntKind) (a b : Int) : aBin P .mul t (.v (.int k a)) (.v (.int k b)) = some (.v (.int k (k.wrap (a * b)))) := by
  cases k <;> kernel_rfl
theorem b_lss (P : Program) (t : TypeId) (k : IntKind) (a b : Int) : aBin P .lss t (.v (.int k a)) (.v (.int k b)) = some (vb (decide (a < b))) := by
  cases k <;> kernel_rfl
theorem b_leq (P : Program) (t : TypeId) (k : IntKind) (a b : Int) : aBin P .leq t (.v (.int k a)) (.v (.int k b)) = some (vb (decide (a ≤ b))) := by
  cases k <;> kernel_rfl
theorem b_gtr (P : Program) (t : TypeId) (k : IntKind) (a b : Int) : aBin P .gtr t (.v (.int k a)) (.v (.int k b)) = some (vb (decide (b < a))) := by
  cases k <;> kernel_rfl
theorem b_geq (P : Program) (t : TypeId) (k : IntKind) (a b : Int) : aBin P .geq t (.v (.int k a)) (.v (.int k b)) = some (vb (decide (b ≤ a))) := by
  cases k <;> kernel_rfl
theorem int_beq (a b : Int) : (a == b) = decide (a = b) := by
  by_cases h : a = b <;> simp [h]
theorem b_eql (P : Program) (t : TypeId) (k : IntKind) (a b : Int) : aBin P .eql t (.v (.int k a)) (.v (.int k b)) = some (vb (decide (a = b))) := by
  rw [← int_beq]; cases k <;> kernel_rfl
theorem b_neq (P : Program) (t : TypeId) (k : IntKind) (a b : Int) : aBin P .neq t (.v (.int k a)) (.v (.int k b)) = some (vb (decide (¬ a = b))) := by
  rw [show decide (¬ a = b) = !(a == b) by rw [int_beq]; simp]
  cases k <;> kernel_rfl
theorem b_and (P : Program) (t : TypeId) (k : IntKind) (a b : Int) : aBin P .and t (.v (.int k a)) (.v (.int k b)) = some (.v (.int k (k.wrap ((BitVec.ofInt k.bits a &&& BitVec.ofInt k.bits b).toNat : Nat)))) := by
  cases k <;> kernel_rfl
theorem b_or (P : Program) (t : TypeId) (k : IntKind) (a b : Int) : aBin P .or t (.v (.int k a)) (.v (.int k b)) = some (.v (.int k (k.wrap ((BitVec.ofInt k.bits a ||| BitVec.ofInt k.bits b).toNat : Nat)))) := by
  cases k <;> kernel_rfl
theorem b_xor (P : Program) (t : TypeId) (k : IntKind) (a b : Int) : aBin P .xor t (.v (.int k a)) (.v (.int k b)) = some (.v (.int k (k.wrap ((BitVec.ofInt k.bits a ^^^ BitVec.ofInt k.bits b).toNat : Nat)))) := by
  cases k <;> kernel_rfl
theorem b_shl (P : Program) (t : TypeId) (k k2 : IntKind) (a b : Int) (h : 0 ≤ b) : aBin P .shl t (.v (.int k a)) (.v (.int k2 b)) = some (.v (.int k (k.wrap (a * 2 ^ min b.toNat k.bits)))) := by
  have h' : ¬ b < 0 := by omega
  have e : binSem .shl t (.int k a) (.int k2 b) = Op.shift .shl k a k2 b := rfl
  have e2 : Op.shift .shl k a k2 b = pure (.int k (k.wrap (a * 2 ^ min b.toNat k.bits))) := by
    unfold Op.shift; rw [if_neg h']
  simp only [aBin, AV.val, aBinV, nilIfaces, Bool.false_eq_true, if_false, e, e2]
  rfl
theorem b_shr (P : Program) (t : TypeId) (k k2 : IntKind) (a b : Int) (h : 0 ≤ b) : aBin P .shr t (.v (.int k a)) (.v (.int k2 b)) = some (.v (.int k (a.fdiv (2 ^ min b.toNat k.bits)))) := by
  have h' : ¬ b < 0 := by omega
  have e : binSem .shr t (.int k a) (.int k2 b) = Op.shift .shr k a k2 b := rfl
  have e2 : Op.shift .shr k a k2 b = pure (.int k (a.fdiv (2 ^ min b.toNat k.bits))) := by
    unfold Op.shift; rw [if_neg h']
  simp only [aBin, AV.val, aBinV, nilIfaces, Bool.false_eq_true, if_false, e, e2]
  rfl
theorem b_quo (P : Program) (t : TypeId) (k : IntKind) (a b : Int) (h : b ≠ 0) : aBin P .quo t (.v (.int k a)) (.v (.int k b)) = some (.v (.int k (k.wrap (a.tdiv b)))) := by
  have e : binSem .quo t (.int k a) (.int k b) = Op.intDiv .quo k a b := by cases k <;> rfl
  have e2 : Op.intDiv .quo k a b = pure (.int k (k.wrap (a.tdiv b))) := by
    unfold Op.intDiv; rw [if_neg h]
  simp only [aBin, AV.val, aBinV, nilIfaces, Bool.false_eq_true, if_false, e, e2]
  rfl
theorem b_rem (P : Program) (t : TypeId) (k : IntKind) (a b : Int) (h : b ≠ 0) : aBin P .rem t (.v (.int k a)) (.v (.int k b)) = some (.v (.int k (a.tmod b))) := by
  have e : binSem .rem t (.int k a) (.int k b) = Op.intDiv .rem k a b := by cases k <;> rfl
  have e2 : Op.intDiv .rem k a b = pure (.int k (a.tmod b)) := by
    unfold Op.intDiv; rw [if_neg h]
  simp only [aBin, AV.val, aBinV, nilIfaces, Bool.false_eq_true, if_false, e, e2]
  rfl
theorem u_neg (P : Program) (k : IntKind) (a : Int) : aUn P .neg (.v (.int k a)) = some (.v (.int k (k.wrap (0 - a)))) := by
  cases k <;> kernel_rfl
theorem u_not (P : Program) (b : Bool) : aUn P .not (vb b) = some (vb (!b)) := by kernel_rfl

/-! ### Signed numbers within their range -/
theorem i_add (P : Program) (t : TypeId) (a b : Int) (h0 : -9223372036854775808 ≤ a + b) (h1 : a + b < 9223372036854775808) : aBin P .add t (vi a) (vi b) = some (vi (a + b)) := by
  rw [b_add, wi_id h0 h1]
theorem i_sub (P : Program) (t : TypeId) (a b : Int) (h0 : -9223372036854775808 ≤ a - b) (h1 : a - b < 9223372036854775808) : aBin P .sub t (vi a) (vi b) = some (vi (a - b)) := by
  rw [b_sub, wi_id h0 h1]
theorem i_mul (P : Program) (t : TypeId) (a b : Int) (h0 : -9223372036854775808 ≤ a * b) (h1 : a * b < 9223372036854775808) : aBin P .mul t (vi a) (vi b) = some (vi (a * b)) := by
  rw [b_mul, wi_id h0 h1]
theorem i_neg (P : Program) (a : Int) (h0 : -9223372036854775808 < a) (h1 : a < 9223372036854775808) : aUn P .neg (vi a) = some (vi (-a)) := by
  rw [u_neg, wi_id (by omega) (by omega)]; simp
theorem i_quo (P : Program) (t : TypeId) (a b : Int) (h0 : 0 ≤ a) (h1 : 0 < b) (h2 : a < 9223372036854775808) : aBin P .quo t (vi a) (vi b) = some (vi (a / b)) := by
  have e : a.tdiv b = a / b := Int.tdiv_eq_ediv_of_nonneg h0
  have h3 : a / b ≤ a := Int.ediv_le_self b h0
  have h4 : 0 ≤ a / b := Int.ediv_nonneg h0 (by omega)
  rw [b_quo _ _ _ _ _ (by omega), e, wi_id (by omega) (by omega)]
theorem i_rem (P : Program) (t : TypeId) (a b : Int) (h0 : 0 ≤ a) (h1 : 0 < b) : aBin P .rem t (vi a) (vi b) = some (vi (a % b)) := by
  rw [b_rem _ _ _ _ _ (by omega), Int.tmod_eq_emod_of_nonneg h0]

/-! ### Words of 32 bits, bytes -/
theorem ofInt32 (a : UInt32) : BitVec.ofInt 32 (a.toNat : Int) = a.toBitVec := by
  apply BitVec.eq_of_toNat_eq
  have h1 := a.toNat_lt
  have h2 : (a.toBitVec).toNat = a.toNat := rfl
  rw [BitVec.toNat_ofInt, h2]
  omega
theorem ofInt8 (a : UInt8) : BitVec.ofInt 8 (a.toNat : Int) = a.toBitVec := by
  apply BitVec.eq_of_toNat_eq
  have h1 := a.toNat_lt
  have h2 : (a.toBitVec).toNat = a.toNat := rfl
  rw [BitVec.toNat_ofInt, h2]
  omega
theorem back32 (b : BitVec 32) : IntKind.wrap .u32 ((b.toNat : Nat) : Int) = ((UInt32.ofBitVec b).toNat : Int) := by
  have h : (UInt32.ofBitVec b).toNat = b.toNat := rfl
  have := b.isLt
  rw [ww_mod, h]; omega
theorem back8 (b : BitVec 8) : IntKind.wrap .u8 ((b.toNat : Nat) : Int) = ((UInt8.ofBitVec b).toNat : Int) := by
  have h : (UInt8.ofBitVec b).toNat = b.toNat := rfl
  have := b.isLt
  rw [w8_mod, h]; omega
theorem w_add (P : Program) (t : TypeId) (a b : UInt32) : aBin P .add t (vw a) (vw b) = some (vw (a + b)) := by
  rw [b_add, ww_mod]
  have : (a + b).toNat = (a.toNat + b.toNat) % 4294967296 := UInt32.toNat_add a b
  show _ = some (AV.v (.int .u32 (((a + b).toNat : Nat) : Int)))
  rw [this]; rfl
theorem w_and (P : Program) (t : TypeId) (a b : UInt32) : aBin P .and t (vw a) (vw b) = some (vw (a &&& b)) := by
  rw [b_and]; simp only [IntKind.bits]; rw [ofInt32, ofInt32, back32]; rfl
theorem w_or (P : Program) (t : TypeId) (a b : UInt32) : aBin P .or t (vw a) (vw b) = some (vw (a ||| b)) := by
  rw [b_or]; simp only [IntKind.bits]; rw [ofInt32, ofInt32, back32]; rfl
theorem w_xor (P : Program) (t : TypeId) (a b : UInt32) : aBin P .xor t (vw a) (vw b) = some (vw (a ^^^ b)) := by
  rw [b_xor]; simp only [IntKind.bits]; rw [ofInt32, ofInt32, back32]; rfl
theorem w_not (P : Program) (a : UInt32) : aUn P .xor (vw a) = some (vw (~~~ a)) := by
  have e : aUn P .xor (vw a) = some (.v (.int .u32 (IntKind.wrap .u32 ((BitVec.ofInt 32 4294967295 ^^^ BitVec.ofInt 32 (a.toNat : Int)).toNat : Nat)))) := by kernel_rfl
  rw [e, ofInt32, back32]
  congr 4
/-- Shifts of words by numbers below 32. -/
theorem w_shl (P : Program) (t : TypeId) (k2 : IntKind) (a : UInt32) (n : Nat) (h : n < 32) : aBin P .shl t (vw a) (.v (.int k2 (n : Int))) = some (vw (a <<< UInt32.ofNat n)) := by
  rw [b_shl _ _ _ _ _ _ (by omega), ww_mod]
  have e : min ((n : Int).toNat) (IntKind.bits .u32) = n := by simp [IntKind.bits]; omega
  rw [e]
  congr 3
  rw [UInt32.toNat_shiftLeft]
  have : (UInt32.ofNat n).toNat % 32 = n := by
    rw [UInt32.toNat_ofNat']; omega
  rw [this, Nat.shiftLeft_eq]
  simp
theorem w_shr (P : Program) (t : TypeId) (k2 : IntKind) (a : UInt32) (n : Nat) (h : n < 32) : aBin P .shr t (vw a) (.v (.int k2 (n : Int))) = some (vw (a >>> UInt32.ofNat n)) := by
  rw [b_shr _ _ _ _ _ _ (by omega)]
  have e : min ((n : Int).toNat) (IntKind.bits .u32) = n := by simp [IntKind.bits]; omega
  rw [e]
  congr 3
  rw [UInt32.toNat_shiftRight]
  have : (UInt32.ofNat n).toNat % 32 = n := by
    rw [UInt32.toNat_ofNat']; omega
  rw [this, Nat.shiftRight_eq_div_pow]
  rw [Int.fdiv_eq_ediv_of_nonneg _ (by exact Int.le_of_lt (Int.pow_pos (by decide)))]
  simp

/-! ### Whole numbers without a sign -/
theorem q_add (P : Program) (t : TypeId) (a b : Nat) (h : a + b < 18446744073709551616) : aBin P .add t (vq a) (vq b) = some (vq (a + b)) := by
  rw [b_add, wq_id (by omega) (by omega)]; simp
theorem q_sub (P : Program) (t : TypeId) (a b : Nat) (h : b ≤ a) (h2 : a < 18446744073709551616) : aBin P .sub t (vq a) (vq b) = some (vq (a - b)) := by
  rw [b_sub, wq_id (by omega) (by omega)]
  show _ = some (AV.v (.int .u64 ((a - b : Nat) : Int)))
  rw [Int.ofNat_sub h]
theorem q_mul (P : Program) (t : TypeId) (a b : Nat) (h : a * b < 18446744073709551616) : aBin P .mul t (vq a) (vq b) = some (vq (a * b)) := by
  have e : (a : Int) * (b : Int) = ((a * b : Nat) : Int) := (Int.natCast_mul a b).symm
  rw [b_mul, e, wq_id (by omega) (by omega)]
theorem ofIntq (a : Nat) (h : a < 18446744073709551616) : (BitVec.ofInt 64 (a : Int)).toNat = a := by
  rw [BitVec.toNat_ofInt]; omega
theorem q_and (P : Program) (t : TypeId) (a b : Nat) (ha : a < 18446744073709551616) (hb : b < 18446744073709551616) : aBin P .and t (vq a) (vq b) = some (vq (a &&& b)) := by
  have e : (BitVec.ofInt (IntKind.bits .u64) (a : Int) &&& BitVec.ofInt (IntKind.bits .u64) (b : Int)).toNat = a &&& b := by
    show (BitVec.ofInt 64 (a : Int) &&& BitVec.ofInt 64 (b : Int)).toNat = a &&& b
    rw [BitVec.toNat_and, ofIntq a ha, ofIntq b hb]
  have h3 : a &&& b ≤ a := Nat.and_le_left
  rw [b_and, e, wq_id (by omega) (by omega)]
theorem q_shr (P : Program) (t : TypeId) (k2 : IntKind) (a n : Nat) (h : n ≤ 64) : aBin P .shr t (vq a) (.v (.int k2 (n : Int))) = some (vq (a / 2 ^ n)) := by
  rw [b_shr _ _ _ _ _ _ (by omega)]
  have e : min ((n : Int).toNat) (IntKind.bits .u64) = n := by simp [IntKind.bits]; omega
  rw [e, Int.fdiv_eq_ediv_of_nonneg _ (by exact Int.le_of_lt (Int.pow_pos (by decide)))]
  simp
theorem q_rem (P : Program) (t : TypeId) (a b : Nat) (h : b ≠ 0) : aBin P .rem t (vq a) (vq b) = some (vq (a % b)) := by
  rw [b_rem _ _ _ _ _ (by omega)]
  congr 3
theorem q_quo (P : Program) (t : TypeId) (a b : Nat) (h : b ≠ 0) (h2 : a < 18446744073709551616) : aBin P .quo t (vq a) (vq b) = some (vq (a / b)) := by
  rw [b_quo _ _ _ _ _ (by omega)]
  have : (a : Int).tdiv (b : Int) = ((a / b : Nat) : Int) := rfl
  have h3 := Nat.div_le_self a b
  rw [this]
  generalize a / b = c at *
  rw [wq_id (by omega) (by omega)]

/-! ### Strings -/
theorem ba_toList (l : List UInt8) : (ByteArray.mk l.toArray).toList = l := by
  have key : ∀ (n i : Nat) (r : List UInt8), l.length - i = n → ByteArray.toList.loop (ByteArray.mk l.toArray) i r = r.reverse ++ l.drop i := by
    intro n
    induction n with
    | zero =>
      intro i r h
      rw [ByteArray.toList.loop]
      have hs : (ByteArray.mk l.toArray).size = l.length := by simp [ByteArray.size]
      rw [if_neg (by rw [hs]; omega), List.drop_eq_nil_of_le (by omega)]
      simp
    | succ n ih =>
      intro i r h
      rw [ByteArray.toList.loop]
      have hs : (ByteArray.mk l.toArray).size = l.length := by simp [ByteArray.size]
      rw [if_pos (by rw [hs]; omega), ih _ _ (by omega)]
      have hi : i < l.length := by omega
      rw [List.drop_eq_getElem_cons hi]
      have : (ByteArray.mk l.toArray).get! i = l[i] := by
        simp [ByteArray.get!, hi]
      rw [this]
      simp
  unfold ByteArray.toList
  rw [key l.length 0 [] (by omega)]
  simp
theorem s_neq (P : Program) (t : TypeId) (a b : List UInt8) : aBin P .neq t (vs a) (vs b) = some (vb (decide (¬ a = b))) := by
  have e : aBin P .neq t (vs a) (vs b) = some (vb (!((ByteArray.mk a.toArray).toList == (ByteArray.mk b.toArray).toList))) := by kernel_rfl
  rw [e, ba_toList, ba_toList]
  by_cases h : a = b <;> simp [h]
theorem ba_size (l : List UInt8) : (ByteArray.mk l.toArray).size = l.length := by simp [ByteArray.size]
theorem ba_data (l : List UInt8) : (ByteArray.mk l.toArray).data.toList = l := rfl
theorem ba_get (l : List UInt8) (i : Nat) : (ByteArray.mk l.toArray)[i]? = l[i]? := by
  simp only [getElem?_def]
  simp only [ba_size]
  split
  · rename_i h
    congr 1
  · rfl
theorem ba_extract (l : List UInt8) (i j : Nat) : (ByteArray.mk l.toArray).extract i j = ByteArray.mk ((l.take j).drop i).toArray := by
  apply ByteArray.ext
  apply Array.ext'
  simp only [ByteArray.data_extract, List.extract_toArray, List.extract_eq_take_drop]
  rw [List.drop_take]
theorem bytesOf_b (l : List UInt8) : bytesOf (bcells l) = some l := by
  induction l with
  | nil => rfl
  | cons b l ih =>
    have : bcells (b :: l) = .v (.int .u8 b.toNat) :: bcells l := rfl
    rw [this]
    simp only [bytesOf, ih, Option.map_some]
    congr 2
    simp
theorem bcells_len (l : List UInt8) : (bcells l).length = l.length := by simp [bcells]
end Go.Proofs.YtnfdepafmmibaaaDoor

/-! Slices, arrays and lists of the machine, as rules. Conditions: none (each rule bears its own). -/
set_option linter.unusedVariables false
set_option linter.unusedSimpArgs false
namespace Go.Proofs.YtnfdepafmmibaaaDoor
open Go

/-- What is known of the spare room of a part. -/
def cutTag (tag : Tag) (n h : Nat) : Tag :=
  match tag with
  | .full => if h = n then .full else .none
  | _ => .none
theorem cutTag_none (n h : Nat) : cutTag .none n h = .none := rfl
theorem cutTag_own (d k n h : Nat) : cutTag (.own d k) n h = .none := rfl
theorem cutTag_full (n : Nat) : cutTag .full n n = .full := if_pos rfl
theorem nval_none (d : Nat) : nval none d = some d := rfl
theorem nval_i (a : Int) (d : Nat) (h : 0 ≤ a) : nval (some (vi a)) d = some a.toNat := by simp only [nval, if_pos h]
section
variable {P : Program} {t e : TypeId} {C : Nat}
theorem bounds_of {n cap : Nat} {lo hi mx : Option AV} {l h m : Nat} (h1 : nval lo 0 = some l) (h2 : nval hi n = some h) (h3 : nval mx cap = some m) (h4 : l ≤ h ∧ h ≤ m ∧ m ≤ cap) (h5 : mx.isSome = true → hi.isSome = true) :
    bounds n cap lo hi mx = some (l, h, m) := by
  simp only [bounds, h1, h2, h3]
  rw [if_pos ⟨h4.1, h4.2.1, h4.2.2, h5⟩]
theorem slice_list (hu : P.underlying t = some (.slice e)) (hc : P.cellsOf e = C) (hC : 0 < C) {tag : Tag} {n : Nat} {cs : List DV} {lo hi : Option AV} {l h : Nat}
    (h1 : nval lo 0 = some l) (h2 : nval hi n = some h) (h3 : l ≤ h ∧ h ≤ n) (hl : cs.length = n * C) :
    aSlice P t (.list tag n cs) lo hi none = some (.list (cutTag tag n h) (h - l) ((cs.drop (l * C)).take ((h - l) * C))) := by
  unfold aSlice
  simp only [hu, hc]
  rw [if_neg (by omega), bounds_of h1 h2 (nval_none n) ⟨h3.1, h3.2, Nat.le_refl _⟩ (fun e => by cases e)]
  simp only [Option.bind_some]
  have : h * C ≤ n * C := Nat.mul_le_mul_right _ h3.2
  rw [if_neg (by omega)]
  cases tag <;> simp [cutTag]
theorem slice_listm (hu : P.underlying t = some (.slice e)) (hc : P.cellsOf e = C) (hC : 0 < C) {tag : Tag} {n : Nat} {cs : List DV} {lo hi mx : Option AV} {l h : Nat}
    (h1 : nval lo 0 = some l) (h2 : nval hi n = some h) (hm : nval mx n = some h) (hx : mx.isSome = true) (hy : hi.isSome = true) (h3 : l ≤ h ∧ h ≤ n) (hl : cs.length = n * C) :
    aSlice P t (.list tag n cs) lo hi mx = some (.list .full (h - l) ((cs.drop (l * C)).take ((h - l) * C))) := by
  unfold aSlice
  simp only [hu, hc]
  rw [if_neg (by omega), bounds_of h1 h2 hm ⟨h3.1, Nat.le_refl _, h3.2⟩ (fun _ => hy)]
  simp only [Option.bind_some]
  have : h * C ≤ n * C := Nat.mul_le_mul_right _ h3.2
  rw [if_neg (by omega)]
  simp [hx]
theorem sl_xh (hu : P.underlying t = some (.slice e)) (hc : P.cellsOf e = C) (hC : 0 < C) (tag : Tag) (n : Nat) (cs : List DV) (b : Int) (h2 : 0 ≤ b) (h3 : b ≤ n) (hl : cs.length = n * C) :
    aSlice P t (.list tag n cs) none (some (vi b)) none = some (.list (cutTag tag n b.toNat) b.toNat (cs.take (b.toNat * C))) := by
  rw [slice_list hu hc hC (nval_none 0) (nval_i b n h2) ⟨Nat.zero_le _, by omega⟩ hl]; simp
theorem sl_lx (hu : P.underlying t = some (.slice e)) (hc : P.cellsOf e = C) (hC : 0 < C) (tag : Tag) (n : Nat) (cs : List DV) (a : Int) (h2 : 0 ≤ a) (h3 : a ≤ n) (hl : cs.length = n * C) :
    aSlice P t (.list tag n cs) (some (vi a)) none none = some (.list (cutTag tag n n) (n - a.toNat) (cs.drop (a.toNat * C))) := by
  rw [slice_list hu hc hC (nval_i a 0 h2) (nval_none n) ⟨by omega, Nat.le_refl _⟩ hl]
  rw [List.take_of_length_le (by rw [List.length_drop, hl, Nat.sub_mul]; omega)]
theorem sl_lh (hu : P.underlying t = some (.slice e)) (hc : P.cellsOf e = C) (hC : 0 < C) (tag : Tag) (n : Nat) (cs : List DV) (a b : Int) (h1 : 0 ≤ a) (h2 : a ≤ b) (h3 : b ≤ n) (hl : cs.length = n * C) :
    aSlice P t (.list tag n cs) (some (vi a)) (some (vi b)) none = some (.list (cutTag tag n b.toNat) (b.toNat - a.toNat) ((cs.drop (a.toNat * C)).take ((b.toNat - a.toNat) * C))) :=
  slice_list hu hc hC (nval_i a 0 h1) (nval_i b n (by omega)) ⟨by omega, by omega⟩ hl
theorem sl_xhm (hu : P.underlying t = some (.slice e)) (hc : P.cellsOf e = C) (hC : 0 < C) (tag : Tag) (n : Nat) (cs : List DV) (b : Int) (h2 : 0 ≤ b) (h3 : b ≤ n) (hl : cs.length = n * C) :
    aSlice P t (.list tag n cs) none (some (vi b)) (some (vi b)) = some (.list .full b.toNat (cs.take (b.toNat * C))) := by
  rw [slice_listm hu hc hC (nval_none 0) (nval_i b n h2) (nval_i b n h2) rfl rfl ⟨Nat.zero_le _, by omega⟩ hl]; simp
theorem sl_lhm (hu : P.underlying t = some (.slice e)) (hc : P.cellsOf e = C) (hC : 0 < C) (tag : Tag) (n : Nat) (cs : List DV) (a b : Int) (h1 : 0 ≤ a) (h2 : a ≤ b) (h3 : b ≤ n) (hl : cs.length = n * C) :
    aSlice P t (.list tag n cs) (some (vi a)) (some (vi b)) (some (vi b)) = some (.list .full (b.toNat - a.toNat) ((cs.drop (a.toNat * C)).take ((b.toNat - a.toNat) * C))) :=
  slice_listm hu hc hC (nval_i a 0 h1) (nval_i b n (by omega)) (nval_i b n (by omega)) rfl rfl ⟨by omega, by omega⟩ hl
theorem slice_msl (hu : P.underlying t = some (.slice e)) (hc : P.cellsOf e = C) (hC : 0 < C) {d k off n cap : Nat} {lo hi mx : Option AV} {l h m : Nat}
    (h1 : bounds n cap lo hi mx = some (l, h, m)) :
    aSlice P t (.msl d k off n cap) lo hi mx = some (.msl d k (if m = l then off else off + l * C) (h - l) (m - l)) := by
  unfold aSlice
  simp only [hu, hc]
  rw [if_neg (by omega), h1]
  rfl
theorem slice_arr {N : Nat} (hu : P.underlying t = some (.array N e)) (hc : P.cellsOf e = C) (hC : 0 < C) {d k off : Nat} {lo hi mx : Option AV} {l h m : Nat}
    (h1 : bounds N N lo hi mx = some (l, h, m)) :
    aSlice P t (.ptr d k off) lo hi mx = some (.msl d k (if m = l then off else off + l * C) (h - l) (m - l)) := by
  unfold aSlice
  simp only [hu, hc]
  rw [if_neg (by omega), h1]
  rfl
theorem sm_lx (hu : P.underlying t = some (.slice e)) (hc : P.cellsOf e = C) (hC : 0 < C) (d k off n cap : Nat) (a : Int) (h1 : 0 ≤ a) (h2 : a ≤ n) (h : n ≤ cap) (h4 : a < cap) :
    aSlice P t (.msl d k off n cap) (some (vi a)) none none = some (.msl d k (off + a.toNat * C) (n - a.toNat) (cap - a.toNat)) := by
  rw [slice_msl hu hc hC (bounds_of (nval_i a 0 h1) (nval_none n) (nval_none cap) ⟨by omega, h, Nat.le_refl _⟩ (fun e => by cases e))]
  rw [if_neg (by omega)]
theorem sm_xh (hu : P.underlying t = some (.slice e)) (hc : P.cellsOf e = C) (hC : 0 < C) (d k off n cap : Nat) (b : Int) (h1 : 0 ≤ b) (h2 : b ≤ cap) :
    aSlice P t (.msl d k off n cap) none (some (vi b)) none = some (.msl d k off b.toNat cap) := by
  rw [slice_msl hu hc hC (bounds_of (nval_none 0) (nval_i b n h1) (nval_none cap) ⟨by omega, by omega, Nat.le_refl _⟩ (fun e => by cases e))]
  simp
theorem sa_xx {N : Nat} (hu : P.underlying t = some (.array N e)) (hc : P.cellsOf e = C) (hC : 0 < C) (d k off : Nat) : aSlice P t (.ptr d k off) none none none = some (.msl d k off N N) := by
  rw [slice_arr hu hc hC (bounds_of (nval_none 0) (nval_none N) (nval_none N) ⟨by omega, Nat.le_refl _, Nat.le_refl _⟩ (fun e => by cases e))]
  simp
theorem sa_lx {N : Nat} (hu : P.underlying t = some (.array N e)) (hc : P.cellsOf e = C) (hC : 0 < C) (d k off : Nat) (a : Int) (h1 : 0 ≤ a) (h2 : a < N) :
    aSlice P t (.ptr d k off) (some (vi a)) none none = some (.msl d k (off + a.toNat * C) (N - a.toNat) (N - a.toNat)) := by
  rw [slice_arr hu hc hC (bounds_of (nval_i a 0 h1) (nval_none N) (nval_none N) ⟨by omega, Nat.le_refl _, Nat.le_refl _⟩ (fun e => by cases e))]
  rw [if_neg (by omega)]
theorem sa_xh {N : Nat} (hu : P.underlying t = some (.array N e)) (hc : P.cellsOf e = C) (hC : 0 < C) (d k off : Nat) (b : Int) (h1 : 0 ≤ b) (h2 : b ≤ N) :
    aSlice P t (.ptr d k off) none (some (vi b)) none = some (.msl d k off b.toNat N) := by
  rw [slice_arr hu hc hC (bounds_of (nval_none 0) (nval_i b N h1) (nval_none N) ⟨by omega, by omega, Nat.le_refl _⟩ (fun e => by cases e))]
  simp
theorem ia_list (hu : P.underlying t = some (.slice e)) (hc : P.cellsOf e = C) (hC : 0 < C) (tag : Tag) (n : Nat) (cs : List DV) (k : IntKind) (i : Int) (h0 : 0 ≤ i) (h1 : i < n) (hl : cs.length = n * C) :
    aIndexAddr P t (.list tag n cs) (.v (.int k i)) = some (.lptr cs (i.toNat * C)) := by
  unfold aIndexAddr
  simp only [hu, hc]
  rw [if_pos ⟨h0, h1, hC, by rw [hl]; exact Nat.mul_le_mul_right _ (by omega)⟩]
theorem ia_msl (hu : P.underlying t = some (.slice e)) (hc : P.cellsOf e = C) (hC : 0 < C) (d k off n cap : Nat) (q : IntKind) (i : Int) (h0 : 0 ≤ i) (h1 : i < n) :
    aIndexAddr P t (.msl d k off n cap) (.v (.int q i)) = some (.ptr d k (off + i.toNat * C)) := by
  unfold aIndexAddr
  simp only [hu, hc]
  rw [if_pos ⟨h0, h1, hC⟩]
theorem ia_arr {N : Nat} (hu : P.underlying t = some (.array N e)) (hc : P.cellsOf e = C) (hC : 0 < C) (d k off : Nat) (q : IntKind) (i : Int) (h0 : 0 ≤ i) (h1 : i < N) :
    aIndexAddr P t (.ptr d k off) (.v (.int q i)) = some (.ptr d k (off + i.toNat * C)) := by
  unfold aIndexAddr
  simp only [hu, hc]
  rw [if_pos ⟨h0, h1, hC⟩]
theorem ia_larr {N : Nat} (hu : P.underlying t = some (.array N e)) (hc : P.cellsOf e = C) (hC : 0 < C) (cs : List DV) (off : Nat) (q : IntKind) (i : Int) (h0 : 0 ≤ i) (h1 : i < N) :
    aIndexAddr P t (.lptr cs off) (.v (.int q i)) = some (.lptr cs (off + i.toNat * C)) := by
  unfold aIndexAddr
  simp only [hu, hc]
  rw [if_pos ⟨h0, h1, hC⟩]
theorem ix_agg {N : Nat} (hu : P.underlying t = some (.array N e)) (hc : P.cellsOf e = 1) (hy : tyOf P e = some (false, 1)) (cs : List AV) (q : IntKind) (i : Int) (h0 : 0 ≤ i) (h1 : i < N) :
    aIndex P t (.agg cs) (.v (.int q i)) = cs[i.toNat]? := by
  unfold aIndex
  simp only [hu, hc]
  rw [if_pos ⟨h0, h1, by decide⟩]
  simp [aPart, hy]
theorem ix_str (hu : P.underlying t = some .string) (l : List UInt8) (q : IntKind) (i : Int) (h0 : 0 ≤ i) (b : UInt8) (h1 : l[i.toNat]? = some b) :
    aIndex P t (vs l) (.v (.int q i)) = some (vy b) := by
  unfold aIndex
  simp only [hu]
  rw [if_pos h0, ba_get, h1]
theorem ln_list (hu : P.underlying t = some (.slice e)) (tag : Tag) (n : Nat) (cs : List DV) : aLen P t (.list tag n cs) = some (vi n) := by
  unfold aLen; simp only [hu]
theorem ln_msl (hu : P.underlying t = some (.slice e)) (d k off n cap : Nat) : aLen P t (.msl d k off n cap) = some (vi n) := by
  unfold aLen; simp only [hu]
theorem ln_str (hu : P.underlying t = some .string) (l : List UInt8) : aLen P t (vs l) = some (vi l.length) := by
  unfold aLen; simp only [hu, ba_size]
theorem str_lx (hu : P.underlying t = some .string) (l : List UInt8) (a : Int) (h0 : 0 ≤ a) (h1 : a ≤ l.length) : aSlice P t (vs l) (some (vi a)) none none = some (vs (l.drop a.toNat)) := by
  unfold aSlice
  simp only [hu, Option.isSome_none, Bool.false_eq_true, if_false, ba_size]
  rw [bounds_of (nval_i a 0 h0) (nval_none _) (nval_none _) ⟨by omega, Nat.le_refl _, Nat.le_refl _⟩ (fun e => by cases e)]
  simp only [Option.map_some, ba_extract, List.take_length]
/-- Bytes and strings. -/
theorem cv_bytes (h1 : isBytes P t = true) (h2 : isStr P e = true) (tag : Tag) (n : Nat) (l : List UInt8) (hn : n = l.length) (s : St) : aConvS P t e (.list tag n (bcells l)) s = some (vs l) := by
  simp only [aConvS, aConv, h1, h2, Bool.and_self, Bool.true_and, bcells_len, hn, beq_self_eq_true, if_true, bytesOf_b, Option.map_some]
theorem dvs_map {α : Type} (g : α → Value) (l : List α) : dvs (l.map fun a => AV.v (g a)) = some (l.map fun a => DV.v (g a)) := by
  induction l with
  | nil => rfl
  | cons a l ih => simp only [List.map_cons, dvs, AV.dv, ih, Option.map_some]
theorem cv_msl (h1 : isBytes P t = true) (h2 : isStr P e = true) (d k off n c : Nat) (s : St) (b : Blk) (hb : getBlk s d k = some b) (l : List UInt8) (hl : (b.cells.drop off).take n = l.map vy) (hn : off + n ≤ b.cells.length) :
    aConvS P t e (.msl d k off n c) s = some (vs l) := by
  simp only [aConvS, hb, h1, h2, Bool.and_self, Bool.true_and, decide_eq_true hn, if_true, hl]
  rw [dvs_map (fun b : UInt8 => Value.int .u8 (b.toNat : Int)) l]
  simp only [Option.bind_some]
  rw [show (l.map fun a : UInt8 => DV.v (Value.int .u8 (a.toNat : Int))) = bcells l by rfl, bytesOf_b]
  rfl
/-- Appending. -/
theorem ap_list {B : Nat} (hu : P.underlying t = some (.slice e)) (hc : P.cellsOf e = C) (hC : 0 < C) (hb : P.bytesOf e = B) (hB : 0 < B) (hz : ((zCells P e).any fun z => z.length == C) = true)
    (tag : Tag) (n : Nat) (cs : List DV) (tag2 : Tag) (m : Nat) (ys : List DV) (s : St) (h1 : cs.length = n * C) (h2 : ys.length = m * C) (h3 : (n + m) * B ≤ 140737488355328) (h4 : 0 < m) :
    aAppend P t (.list tag n cs) (.list tag2 m ys) s = (growTok s tag n m).map fun p => (.list p.1 (n + m) (cs ++ ys), p.2) := by
  unfold aAppend
  simp only [hu]
  have : srcCells P e (.list tag2 m ys) s = some (m, ys) := by simp only [srcCells, hc, h2, if_true]
  simp only [this, hc, hb]
  have h5 : n + m ≤ (n + m) * B := Nat.le_mul_of_pos_right _ hB
  rw [if_pos ⟨h1, hC, h3, by omega, hz, hB⟩, if_neg (by omega)]
theorem ap_zero {B : Nat} (hu : P.underlying t = some (.slice e)) (hc : P.cellsOf e = C) (hC : 0 < C) (hb : P.bytesOf e = B) (hB : 0 < B) (hz : ((zCells P e).any fun z => z.length == C) = true)
    (tag : Tag) (n : Nat) (cs : List DV) (tag2 : Tag) (s : St) (h1 : cs.length = n * C) (h3 : n * B ≤ 140737488355328) :
    aAppend P t (.list tag n cs) (.list tag2 0 []) s = some (.list tag n cs, s) := by
  unfold aAppend
  simp only [hu]
  have : srcCells P e (.list tag2 0 []) s = some (0, []) := by simp [srcCells]
  simp only [this, hc, hb, Nat.add_zero]
  have h5 : n ≤ n * B := Nat.le_mul_of_pos_right _ hB
  rw [if_pos ⟨h1, hC, h3, by omega, hz, hB⟩]
  rfl
theorem ap_str {B : Nat} (hu : P.underlying t = some (.slice e)) (hc : P.cellsOf e = 1) (hb : P.bytesOf e = 1) (hz : ((zCells P e).any fun z => z.length == 1) = true)
    (tag : Tag) (n : Nat) (cs : List DV) (l : List UInt8) (s : St) (h1 : cs.length = n) (h3 : n + l.length ≤ 140737488355328) (h4 : 0 < l.length) :
    aAppend P t (.list tag n cs) (vs l) s = (growTok s tag n l.length).map fun p => (.list p.1 (n + l.length) (cs ++ bcells l), p.2) := by
  unfold aAppend
  simp only [hu]
  have : srcCells P e (vs l) s = some (l.length, bcells l) := by simp only [srcCells, hc, if_true, ba_size, ba_data]
  simp only [this, hc, hb]
  rw [if_pos ⟨by omega, by decide, by omega, by omega, hz, by decide⟩, if_neg (by omega)]
theorem ap_str0 {B : Nat} (hu : P.underlying t = some (.slice e)) (hc : P.cellsOf e = 1) (hb : P.bytesOf e = 1) (hz : ((zCells P e).any fun z => z.length == 1) = true)
    (tag : Tag) (n : Nat) (cs : List DV) (s : St) (h1 : cs.length = n) (h3 : n ≤ 140737488355328) :
    aAppend P t (.list tag n cs) (vs []) s = some (.list tag n cs, s) := by
  unfold aAppend
  simp only [hu]
  have : srcCells P e (vs []) s = some (0, []) := by simp only [srcCells, hc, if_true, ba_size, ba_data]; rfl
  simp only [this, hc, hb, Nat.add_zero]
  rw [if_pos ⟨by omega, by decide, by omega, by omega, hz, by decide⟩]
  rfl
end
theorem grow_full (f : Frm) (r : St) (n m : Nat) : growTok (f :: r) .full n m = some (.own r.length f.toks.length, { f with toks := f.toks ++ [n + m] } :: r) := rfl
theorem grow_own (s : St) (d k n m : Nat) (h : getTok s d k = some n) : growTok s (.own d k) n m = some (.own d k, setTok s d k (n + m)) := by
  simp only [growTok, h, if_true]
theorem nilTok (f : Frm) (r : St) : aNilTok (.list .full 0 []) (f :: r) = (.list (.own r.length f.toks.length) 0 [], { f with toks := f.toks ++ [0] } :: r) := rfl
end Go.Proofs.YtnfdepafmmibaaaDoor

/-! SHA-256, digests and hash trees as plain functions. Conditions: none; definitions and small facts. -/
set_option linter.unusedVariables false
namespace Go.Proofs.YtnfdepafmmibaaaDoor

def rotr (x : UInt32) (n : Nat) : UInt32 := x >>> UInt32.ofNat n ||| x <<< UInt32.ofNat (32 - n)
def be4 (b : List UInt8) (t : Nat) : UInt32 :=
  (b.getD (4 * t) 0).toUInt32 <<< 24 ||| (b.getD (4 * t + 1) 0).toUInt32 <<< 16 ||| (b.getD (4 * t + 2) 0).toUInt32 <<< 8 ||| (b.getD (4 * t + 3) 0).toUInt32
def sig0 (x : UInt32) : UInt32 := rotr x 7 ^^^ rotr x 18 ^^^ x >>> UInt32.ofNat 3
def sig1 (x : UInt32) : UInt32 := rotr x 17 ^^^ rotr x 19 ^^^ x >>> UInt32.ofNat 10
def nextw (b : List UInt8) (w : List UInt32) (t : Nat) : UInt32 :=
  if t < 16 then be4 b t else w.getD (t - 16) 0 + sig0 (w.getD (t - 15) 0) + w.getD (t - 7) 0 + sig1 (w.getD (t - 2) 0)
/-- The first words of the message schedule. -/
def ws (b : List UInt8) : Nat → List UInt32
  | 0 => []
  | t + 1 => ws b t ++ [nextw b (ws b t) t]
theorem ws_len (b : List UInt8) (t : Nat) : (ws b t).length = t := by
  induction t with
  | zero => rfl
  | succ t ih => simp [ws, ih]
/-- The eight words of a hash value. -/
structure Hs where
  a : UInt32
  b : UInt32
  c : UInt32
  d : UInt32
  e : UInt32
  f : UInt32
  g : UInt32
  h : UInt32
def Hs.list (x : Hs) : List UInt32 := [x.a, x.b, x.c, x.d, x.e, x.f, x.g, x.h]
def kcon : List UInt32 := [0x428a2f98, 0x71374491, 0xb5c0fbcf, 0xe9b5dba5, 0x3956c25b, 0x59f111f1, 0x923f82a4, 0xab1c5ed5,
  0xd807aa98, 0x12835b01, 0x243185be, 0x550c7dc3, 0x72be5d74, 0x80deb1fe, 0x9bdc06a7, 0xc19bf174,
  0xe49b69c1, 0xefbe4786, 0x0fc19dc6, 0x240ca1cc, 0x2de92c6f, 0x4a7484aa, 0x5cb0a9dc, 0x76f988da,
  0x983e5152, 0xa831c66d, 0xb00327c8, 0xbf597fc7, 0xc6e00bf3, 0xd5a79147, 0x06ca6351, 0x14292967,
  0x27b70a85, 0x2e1b2138, 0x4d2c6dfc, 0x53380d13, 0x650a7354, 0x766a0abb, 0x81c2c92e, 0x92722c85,
  0xa2bfe8a1, 0xa81a664b, 0xc24b8b70, 0xc76c51a3, 0xd192e819, 0xd6990624, 0xf40e3585, 0x106aa070,
  0x19a4c116, 0x1e376c08, 0x2748774c, 0x34b0bcb5, 0x391c0cb3, 0x4ed8aa4a, 0x5b9cca4f, 0x682e6ff3,
  0x748f82ee, 0x78a5636f, 0x84c87814, 0x8cc70208, 0x90befffa, 0xa4506ceb, 0xbef9a3f7, 0xc67178f2]
def rnd (x : Hs) (k w : UInt32) : Hs :=
  let p := x.h + (rotr x.e 6 ^^^ rotr x.e 11 ^^^ rotr x.e 25) + ((x.e &&& x.f) ^^^ (~~~ x.e &&& x.g)) + k + w
  let q := (rotr x.a 2 ^^^ rotr x.a 13 ^^^ rotr x.a 22) + ((x.a &&& x.b) ^^^ (x.a &&& x.c) ^^^ (x.b &&& x.c))
  ⟨p + q, x.a, x.b, x.c, x.d + p, x.e, x.f, x.g⟩
def rnds (b : List UInt8) (x : Hs) : Nat → Hs
  | 0 => x
  | t + 1 => rnd (rnds b x t) (kcon.getD t 0) ((ws b 64).getD t 0)
def Hs.add (x y : Hs) : Hs := ⟨x.a + y.a, x.b + y.b, x.c + y.c, x.d + y.d, x.e + y.e, x.f + y.f, x.g + y.g, x.h + y.h⟩
def comp (x : Hs) (b : List UInt8) : Hs := x.add (rnds b x 64)
/-- The hash value after so many blocks. -/
def absorb : Nat → Hs → List UInt8 → Hs
  | 0, x, _ => x
  | k + 1, x, m => comp (absorb k x m) ((m.drop (64 * k)).take 64)
theorem absorb_app (k : Nat) (x : Hs) (m t : List UInt8) (h : 64 * k ≤ m.length) : absorb k x (m ++ t) = absorb k x m := by
  induction k with
  | zero => rfl
  | succ k ih =>
    rw [absorb, absorb, ih (by omega)]
    congr 1
    rw [List.drop_append_of_le_length (by omega), List.take_append_of_le_length (by rw [List.length_drop]; omega)]
def iv : Hs := ⟨0x6a09e667, 0xbb67ae85, 0x3c6ef372, 0xa54ff53a, 0x510e527f, 0x9b05688c, 0x1f83d9ab, 0x5be0cd19⟩
/-- How many zeros a message of n bytes gets. -/
def padz (n : Nat) : Nat := (119 - n % 64) % 64
def be8 (n : Nat) : List UInt8 := (List.range 8).map fun i => UInt8.ofNat (n / 2 ^ (56 - 8 * i))
def pad (n : Nat) : List UInt8 := 128 :: (List.replicate (padz n) 0 ++ be8 (8 * n))
def hbytes (x : Hs) : List UInt8 := (List.range 32).map fun i => (x.list.getD (i / 4) 0 >>> UInt32.ofNat (24 - 8 * (i % 4))).toUInt8
def sha (m : List UInt8) : List UInt8 := hbytes (absorb ((m ++ pad m.length).length / 64) iv (m ++ pad m.length))
theorem be8_len (n : Nat) : (be8 n).length = 8 := by simp [be8]
theorem pad_len (n : Nat) : (pad n).length = padz n + 9 := by simp [pad, be8_len]
theorem sha_len (m : List UInt8) : (sha m).length = 32 := by simp [sha, hbytes]

/-- A digest. -/
def Dig : Type := { l : List UInt8 // l.length = 16 }
instance : DecidableEq Dig := inferInstanceAs (DecidableEq { l : List UInt8 // l.length = 16 })
theorem Dig.len (d : Dig) : d.val.length = 16 := d.property
def Dig.zero : Dig := ⟨List.replicate 16 0, by simp⟩
/-- A number of base 128. -/
def uvar (z : Nat) : List UInt8 := if z < 128 then [UInt8.ofNat z] else UInt8.ofNat (z % 128 + 128) :: uvar (z / 128)
termination_by z
def wireInt (n : Int) : List UInt8 := uvar (if n < 0 then ((-1 - n).toNat) * 2 + 1 else n.toNat * 2)
def wireBytes (s : List UInt8) : List UInt8 := wireInt s.length ++ s
def tagByte (t : Int) : UInt8 := UInt8.ofNat (t % 256).toNat
def hashIn (t : Int) (ps : List (List UInt8)) : List UInt8 := tagByte t :: ps.flatMap wireBytes
def hashOf (t : Int) (ps : List (List UInt8)) : Dig := ⟨(sha (hashIn t ps)).take 16, by rw [List.length_take, sha_len]; rfl⟩
def leafD (s : List UInt8) : Dig := hashOf 30 [s]
def nodeD (a b : Dig) : Dig := hashOf 31 [a.val, b.val]
def emptyD : Dig := hashOf 32 []

/-- The peaks of a list: what Append and Top make of them. -/
def ones (n : Nat) : Nat := if n = 0 then 0 else n % 2 + ones (n / 2)
termination_by n
def maxLeaves : Nat := 1099511627776
def formed (size : Int) (tops : List Dig) : Prop := 0 ≤ size ∧ size ≤ maxLeaves ∧ tops.length = ones size.toNat
instance (size : Int) (tops : List Dig) : Decidable (formed size tops) := inferInstanceAs (Decidable (_ ∧ _ ∧ _))
/-- How many ones are at a number's end. -/
def carry (n : Nat) : Nat := if n % 2 = 1 then carry (n / 2) + 1 else 0
termination_by n
def foldTops (l : List Dig) (d : Dig) : Dig := l.foldr nodeD d
structure Grown where
  size : Int
  tops : List Dig
  err : Int
def growP (size : Int) (tops : List Dig) (leaf : Dig) : Grown :=
  if formed size tops then
    (if size = maxLeaves then ⟨0, [], 2⟩
     else ⟨size + 1, tops.take (tops.length - carry size.toNat) ++ [foldTops (tops.drop (tops.length - carry size.toNat)) leaf], 0⟩)
  else ⟨0, [], 3⟩
structure Topped where
  d : Dig
  err : Int
def topP (size : Int) (tops : List Dig) : Topped :=
  if formed size tops then
    (match tops.getLast? with
     | none => ⟨emptyD, 0⟩
     | some d => ⟨foldTops tops.dropLast d, 0⟩)
  else ⟨Dig.zero, 3⟩
end Go.Proofs.YtnfdepafmmibaaaDoor

/-! Two functions that range over a function, told as plain functions: what merkle.Append and merkle.Top return. Conditions: none; definitions (that Go does so is shown apart). -/
set_option linter.unusedVariables false
namespace Go.Proofs.YtnfdepafmmibaaaDoor
open Go

def dcells (l : List Dig) : List DV := l.flatMap fun d => bcells d.val
def vd (d : Dig) : AV := .agg (d.val.map vy)
theorem dcells_len (l : List Dig) : (dcells l).length = l.length * 16 := by
  induction l with
  | nil => rfl
  | cons d l ih =>
    have : dcells (d :: l) = bcells d.val ++ dcells l := rfl
    rw [this, List.length_append, ih, bcells_len, d.len, List.length_cons]; omega
theorem bcells_inj {a b : List UInt8} (h : bcells a = bcells b) : a = b := by
  have h1 := bytesOf_b a
  rw [h, bytesOf_b] at h1
  exact (Option.some.inj h1).symm
theorem dcells_inj : ∀ {a b : List Dig}, dcells a = dcells b → a = b
  | [], [], _ => rfl
  | [], d :: b, h => by
    have := congrArg List.length h
    rw [dcells_len, dcells_len, List.length_cons, List.length_nil] at this; omega
  | d :: a, [], h => by
    have := congrArg List.length h
    rw [dcells_len, dcells_len, List.length_cons, List.length_nil] at this; omega
  | d :: a, e :: b, h => by
    have h1 : bcells d.val ++ dcells a = bcells e.val ++ dcells b := h
    have h2 : (bcells d.val).length = (bcells e.val).length := by rw [bcells_len, bcells_len, d.len, e.len]
    obtain ⟨h3, h4⟩ := List.append_inj h1 h2
    rw [Subtype.ext (bcells_inj h3), dcells_inj h4]
theorem vd_inj {a b : Dig} (h : vd a = vd b) : a = b := by
  have h1 : a.val.map vy = b.val.map vy := AV.agg.inj h
  apply Subtype.ext
  have key : ∀ (x y : List UInt8), x.map vy = y.map vy → x = y := by
    intro x
    induction x with
    | nil => intro y h; cases y with
      | nil => rfl
      | cons _ _ => cases h
    | cons a x ih => intro y h; cases y with
      | nil => cases h
      | cons b y =>
        simp only [List.map_cons, List.cons.injEq, AV.v.injEq, Value.int.injEq, true_and] at h
        have : a = b := UInt8.toNat_inj.1 (by omega)
        rw [this, ih y h.2]
  exact key _ _ h1
/-- The arguments of Append. -/
structure ApArgs where
  size : Int
  tag : Tag
  tops : List Dig
  leaf : Dig
def ApArgs.av (p : ApArgs) : List AV := [.agg [vi p.size, .list p.tag p.tops.length (dcells p.tops)], vd p.leaf]
def peaksV (size : Int) (tops : List Dig) : AV := .agg [vi size, .list .none tops.length (dcells tops)]
def ApArgs.res (p : ApArgs) : AV := .tuple [peaksV (growP p.size p.tops p.leaf).size (growP p.size p.tops p.leaf).tops, vi (growP p.size p.tops p.leaf).err]
open Classical in
noncomputable def ocAppend (args : List AV) (s : St) : Option (AV × St) :=
  if h : ∃ p : ApArgs, args = p.av then some ((Classical.choose h).res, s) else none
theorem ocAppend_eq (p : ApArgs) (s : St) : ocAppend p.av s = some (p.res, s) := by
  have h : ∃ q : ApArgs, p.av = q.av := ⟨p, rfl⟩
  unfold ocAppend
  rw [dif_pos h]
  have hc := Classical.choose_spec h
  generalize Classical.choose h = q at hc
  obtain ⟨a, t, l, d⟩ := p
  obtain ⟨a', t', l', d'⟩ := q
  simp only [ApArgs.av, List.cons.injEq, AV.agg.injEq, AV.v.injEq, Value.int.injEq, AV.list.injEq, true_and, and_true] at hc
  obtain ⟨⟨rfl, _, _, hl⟩, hd⟩ := hc
  rw [dcells_inj hl, vd_inj hd]
  rfl
structure TpArgs where
  size : Int
  tag : Tag
  tops : List Dig
def TpArgs.av (p : TpArgs) : List AV := [.agg [vi p.size, .list p.tag p.tops.length (dcells p.tops)]]
def TpArgs.res (p : TpArgs) : AV := .tuple [vd (topP p.size p.tops).d, vi (topP p.size p.tops).err]
open Classical in
noncomputable def ocTop (args : List AV) (s : St) : Option (AV × St) :=
  if h : ∃ p : TpArgs, args = p.av then some ((Classical.choose h).res, s) else none
/-- slices.Backward puts its list into a box: what it hands back is a closure that holds the box. -/
def ocBack (c : FuncId) (args : List AV) (s : St) : Option (AV × St) :=
  match args with
  | [.list _ n cs] => some (.fn c [.lptr [.list n cs] 0], s)
  | _ => none
/-- slices.Clone of digests hands back a list of its own. -/
def ocClone (args : List AV) (s : St) : Option (AV × St) :=
  match args, s with
  | [.list _ 0 []], s => some (.list .full 0 [], s)
  | [.list _ (n + 1) cs], f :: r => if cs.length = (n + 1) * 16 ∧ n < 2 ^ 40 then some (.list (.own r.length f.toks.length) (n + 1) cs, { f with toks := f.toks ++ [n + 1] } :: r) else none
  | _, _ => none
end Go.Proofs.YtnfdepafmmibaaaDoor

