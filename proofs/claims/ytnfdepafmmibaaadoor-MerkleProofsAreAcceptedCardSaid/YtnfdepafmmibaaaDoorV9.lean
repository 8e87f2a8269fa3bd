/- From the machine to a row: the world that a call begins in, and what a law that writes nothing leaves | What is read of arguments is what the machine has: lists of digests and of numbers, digests, numbers, texts. Conditions: none. -/
import Derived.Test.YtnfdepafmmibaaaDoorV8
import Derived.ProofKit
import Derived.OpenShut
import Derived.ReadAgain
import Derived.Carry
import Derived.Deep.Slices
import Derived.Lib.LaidTab
/-! From the machine to a row: the world that a call begins in, and what a law that writes nothing leaves. Conditions: none; small facts. -/
set_option linter.unusedVariables false
set_option linter.unusedSimpArgs false
namespace Go.Proofs.YtnfdepafmmibaaaDoor
open Go Go.ChangeShapes Go.WideShapes Go.RowKit

def sizeAt (W : World) (g : Nat) : Nat :=
  match W.heap[g]? with
  | some (.cells cs _ _) => cs.size
  | _ => 0
/-- All that is there when the call begins stays as it is. -/
def ini (W : World) : Gh := { st := fun g => if g < W.heap.size then .imm (sizeAt W g) none else .free, bl := fun _ _ => none, cur := fun _ _ => none, no := fun _ _ => False }
theorem ini_st {W : World} {g : Nat} (h : g < W.heap.size) : (ini W).st g = .imm (sizeAt W g) none := if_pos h
theorem rel_ini {X : Cx} {W : World} (hgl : ∀ g, VRel (ini W) W (X.gl g) (.pointer (some ⟨g, 0, none⟩))) : Rel X (ini W) [] W where
  st d k g := by
    simp only [ini]
    constructor
    · intro h; cases h
    · intro h; split at h <;> cases h
  blk d k g h := by cases h
  fit d k b h := by cases h
  tok d k m l u h := by cases h
  glob := hgl
  free g hg := if_neg (by omega)
  no d k h := h.elim
theorem below_of {W W' : World} {G : Gh} (h : Ext (ini W) W G W') : Below W.heap.size W W' where
  os := h.os
  tape := h.tape
  output := h.output
  size := h.size
  block k hk := by
    obtain ⟨_, _, _, _, _, h1⟩ := h.imm k _ _ (ini_st hk)
    exact (h1 rfl).1
section
variable {H : Type} {enc : TypeId × Value → H} {P : Program}
theorem trodAll_carry {w w' : World} {base : Nat} {sp : Nat → Bool} {hd : Bool} : ∀ {ts : List TypeId} {vs : List Value} {ds : List (DataW H)} {ps : List MemPlace},
    DataW.TrodAll enc P w base sp hd ts vs ds ps → (∀ p ∈ ps, w.sameAt w' p) → DataW.TrodAll enc P w' base sp hd ts vs ds ps
  | [], _, _, _, h, _ => by
    obtain ⟨rfl, rfl, rfl⟩ := trodAll_nil h
    exact trodAll_mk0
  | _ :: _, _, _, _, h, hs => by
    obtain ⟨v, vs1, d, ds1, a, b, rfl, rfl, rfl, ⟨n, h1⟩, h2⟩ := trodAll_cons h
    exact ⟨a, b, ⟨n, DataW.trod_carry n _ _ _ h1 fun p hp => hs p (List.mem_append_left _ hp)⟩, trodAll_carry h2 fun p hp => hs p (List.mem_append_right _ hp), rfl⟩
/-- What a law that writes nothing and returns true leaves. -/
theorem post_true {T : TypeId → Prop} (K : Kids P T) (hz : ∀ t e, T t → P.underlying t = some (.slice e) → 0 < P.cellsOf e) {f : Func} {s : ChangeSpec} {apart fresh handsOn again : Bool} {W W' : World} {args : Array Value}
    {ds gs : List (DataW H)} {before : List MemPlace} {tb : TypeId} (hT : ∀ t ∈ f.params.toList, T t) (hv : s.vars = []) (hres : (s.fn H (ds ++ gs)).results = [.lit (.bool true)]) (hargs : (s.fn H (ds ++ gs)).args = ds)
    (hvars : (s.fn H (ds ++ gs)).vars = []) (ht : f.resultTypes = #[tb]) (hb : P.underlying tb = some .bool)
    (hW : DataW.Whole enc P f.params.toList s.vars apart W args.toList ds gs before) (hB : Below W.heap.size W W') :
    s.post enc P f apart fresh handsOn again W args (.bool true) W' := by
  have hlt : ∀ p ∈ before, p.block < W.heap.size := fun p hp => hW.lt p hp
  have hsame : ∀ p ∈ before, W.sameAt W' p := fun p hp => hB.same (hlt p hp)
  have hW0 := hW
  obtain ⟨p, q, hA, hV, rfl, hfz, hnd⟩ := hW0
  rw [hv] at hV
  obtain ⟨rfl, rfl⟩ := trodVars_none hV
  rw [List.append_nil] at hlt hsame hW hfz
  have hA' := trodAll_carry hA hsame
  have hag : ∀ sp : Nat → Bool, (∀ x ∈ p, sp x.block = true) → DataW.TrodAll enc P W' 0 sp true f.params.toList args.toList (s.fn H (ds ++ [])).args p := fun sp hsp => by
    rw [hargs]; exact DataW.TrodAll.respare K hz hT hA' hsp
  have hrs : ∀ (b : Nat) (sp : Nat → Bool) (hd : Bool), DataW.TrodAll enc P W' b sp hd f.resultTypes.toList ((Value.bool true).resultList f.resultTypes.size) (s.fn H (ds ++ [])).results [] := fun b sp hd => by
    rw [hres, ht]; exact trodAll_cons_mk (shut_bool hb true) trodAll_mk0
  have hvs : ∀ sp : Nat → Bool, DataW.TrodVars enc P W' sp s.vars (s.fn H (ds ++ [])).vars [] := fun sp => by rw [hv, hvars]; rfl
  refine ⟨ds, [], p, [], p, [], hW, hrs _ _ _, hag _ (fun x hx => by simpa using hlt x hx), hvs _, ⟨hB.os, hB.output, fun i hi => ?_⟩, fun _ => ?_⟩
  · rw [hB.block i hi]
    cases W.heap[i]? with
    | none => rfl
    | some o => cases o with
      | cells c t fr => exact ⟨rfl, rfl, rfl, fun _ _ => rfl⟩
      | map es c => exact .inr ⟨rfl, rfl⟩
      | _ => rfl
  · refine ⟨ok_one ht rfl (okWide_bool_mk hb true), _, _, ([] ++ p) ++ [], ⟨[] ++ p, [], trodAll_append (hag _ (fun _ _ => rfl)) (hrs _ _ _), hvs _, rfl, ?_, ?_⟩, ?_⟩
    · intro b off hp
      rw [hB.frozen (hlt _ (by simpa using hp))]
      exact hfz b off (by simpa using hp)
    · intro ha; simpa using hnd ha
    · intro x hx _; simpa using hx
end
end Go.Proofs.YtnfdepafmmibaaaDoor

/-! What is read of arguments is what the machine has: lists of digests and of numbers, digests, numbers, texts. Conditions: none. -/
set_option linter.unusedVariables false
set_option linter.unusedSimpArgs false
namespace Go.Proofs.YtnfdepafmmibaaaDoor
open Go Go.ChangeShapes Go.WideShapes Go.RowKit

theorem cell_in {W : World} {a : Addr} {x : Value} (h : W.cell? a = some x) : a.spot = none ∧ a.block < W.heap.size ∧ a.off < sizeAt W a.block := by
  unfold World.cell? at h
  unfold sizeAt
  split at h
  · rename_i c _ _ hh
    split at h
    · cases h
    · rename_i hs
      refine ⟨by simpa using hs, (Array.getElem?_eq_some_iff.1 hh).1, ?_⟩
      rw [hh]
      exact (Array.getElem?_eq_some_iff.1 h).1
  · cases h
theorem add_eq {a : Addr} (h : a.spot = none) (k : Nat) : a.add k = ⟨a.block, a.off + k, none⟩ := by
  obtain ⟨g, off, sp⟩ := a
  simp only at h
  subst h
  unfold Addr.add
  split
  · rename_i hk; simp only [hk, Nat.add_zero]
  · rfl
theorem add_zero' (a : Addr) : a.add 0 = a := by simp [Addr.add]
theorem drel_row {W : World} {a : Addr} {len cap : Nat} {cells : List DV} (xs : Nat → Value) (hx : ∀ k x, cells[k]? = some x → W.cell? (a.add k) = some (xs k) ∧ DRel (ini W).st W x (xs k)) (hn : len ≤ cap) (h0 : cells = [] → len = 0) :
    DRel (ini W).st W (.list len cells) (.slice (some a) len cap) := by
  cases hc : cells with
  | nil => rw [h0 hc]; exact .nil
  | cons c r =>
    rw [← hc]
    have hne : cells ≠ [] := by rw [hc]; simp
    have hpos : 0 < cells.length := List.length_pos_iff.2 hne
    obtain ⟨h1, _⟩ := hx 0 _ (List.getElem?_eq_getElem hpos)
    rw [add_zero'] at h1
    obtain ⟨s1, s2, _⟩ := cell_in h1
    obtain ⟨h3, _⟩ := hx (cells.length - 1) _ (List.getElem?_eq_getElem (by omega))
    rw [add_eq s1] at h3
    obtain ⟨_, _, s3⟩ := cell_in h3
    obtain ⟨g, off, sp⟩ := a
    simp only at s1 s2 s3
    subst s1
    exact .list xs hn (ini_st s2) (by omega) hne (fun j x hj => by have := (hx j x hj).1; rwa [add_eq rfl] at this) (fun j x hj => (hx j x hj).2)
theorem dcells_range (B : Nat → UInt8) : ∀ len : Nat, ∀ (D : Nat → Dig), (∀ i, i < len → (D i).val = (List.range 16).map fun j => B (i * 16 + j)) →
    dcells ((List.range len).map D) = (List.range (len * 16)).map fun k => DV.v (.int .u8 (B k).toNat)
  | 0, _, _ => rfl
  | n + 1, D, h => by
    rw [List.range_succ, List.map_append, ← dcells_app, dcells_range B n D (fun i hi => h i (by omega)), show (n + 1) * 16 = n * 16 + 16 by omega, List.range_add, List.map_append]
    congr 1
    rw [List.map_cons, List.map_nil, ← dcells_one, h n (by omega), bcells, List.map_map, List.map_map]
    rfl
theorem choose_nat {α : Type} [Inhabited α] {p : Nat → α → Prop} {n : Nat} (h : ∀ k, k < n → ∃ a, p k a) : ∃ f : Nat → α, ∀ k, k < n → p k (f k) := by
  classical
  exact ⟨fun k => if hk : k < n then Classical.choose (h k hk) else default, fun k hk => by have := Classical.choose_spec (h k hk); simpa only [hk, dite_true, dif_pos] using this⟩
section
variable {H : Type} {enc : TypeId × Value → H} {P : Program} {W : World} {sp : Nat → Bool} {hd : Bool}
theorem read_byte {u : TypeId} {n : Nat} {c : List Value} {x : DataW H × List MemPlace} (hu : P.underlying u = some (.int .u8)) (h : DataW.trod enc P W 0 sp hd n u c = some x) : ∃ b : UInt8, c = [.int .u8 b.toNat] := by
  obtain ⟨z, rfl, _, hw⟩ := DataW.trod_int hu h
  have := bounds_u8 hw
  refine ⟨UInt8.ofNat z.toNat, ?_⟩
  rw [show (((UInt8.ofNat z.toNat).toNat : Nat) : Int) = z by rw [UInt8.toNat_ofNat']; omega]
/-- The bytes of an array of sixteen. -/
theorem read_arr {e u : TypeId} {n : Nat} {c : List Value} {x : DataW H × List MemPlace} (he : P.underlying e = some (.array 16 u)) (hu : P.underlying u = some (.int .u8)) (hcu : P.cellsOf u = 1) (hce : P.cellsOf e = 16)
    (h : DataW.trod enc P W 0 sp hd n e c = some x) : c.length = 16 ∧ ∀ j, j < 16 → ∃ b : UInt8, c[j]? = some (.int .u8 b.toNat) := by
  obtain ⟨xs, m, _, _, hl, hxl, hx⟩ := DataW.trod_array he h
  rw [hce] at hl
  refine ⟨hl, fun j hj => ?_⟩
  have h1 := hx j hj
  rw [List.getElem?_eq_getElem (by omega), hcu, Nat.mul_one] at h1
  obtain ⟨b, hb⟩ := read_byte hu h1
  refine ⟨b, ?_⟩
  have : ((c.drop j).take 1)[0]? = some (.int .u8 b.toNat) := by rw [hb]; rfl
  rw [List.getElem?_take, if_pos (by omega), List.getElem?_drop] at this
  simpa using this
theorem read_digs_c {t e u : TypeId} {v : Value} {fuel : Nat} {x0 : DataW H × List MemPlace} (ht : P.underlying t = some (.slice e)) (he : P.underlying e = some (.array 16 u)) (hu : P.underlying u = some (.int .u8)) (hcu : P.cellsOf u = 1) (hce : P.cellsOf e = 16)
    (hf : DataW.trod enc P W 0 sp hd fuel t [v] = some x0) : ∃ l : List Dig, VRel (ini W) W (.list .none l.length (dcells l)) v := by
  rcases Deep.open_slice ht hf with ⟨hc, _⟩ | ⟨a, len, cap, m, n, D, Pl, hc, hb, hl, hm, hmm, _, hx⟩
  · simp only [List.cons.injEq, and_true] at hc
    subst hc
    exact ⟨[], .list .nil trivial⟩
  · simp only [List.cons.injEq, and_true] at hc
    subst hc
    have hlm : len ≤ m := by rw [hmm]; split <;> omega
    have key : ∀ k, k < len * 16 → ∃ b : UInt8, W.cell? (a.add k) = some (.int .u8 b.toNat) := by
      intro k hk
      obtain ⟨cs', h1, h2⟩ := hx (k / 16) (by omega)
      rw [hce] at h1
      obtain ⟨_, _, h4⟩ := World.cells?_some h1
      obtain ⟨_, h5⟩ := read_arr he hu hcu hce h2
      obtain ⟨b, hb⟩ := h5 (k % 16) (by omega)
      refine ⟨b, ?_⟩
      rw [← hb, ← h4 (k % 16) (by omega)]
      have hsp : a.spot = none := by
        obtain ⟨cs0, g1, g2⟩ := hx 0 (by omega)
        rw [hce] at g1
        obtain ⟨_, _, g4⟩ := World.cells?_some g1
        obtain ⟨_, g5⟩ := read_arr he hu hcu hce g2
        obtain ⟨b0, g6⟩ := g5 0 (by omega)
        have g7 := g4 0 (by omega)
        rw [g6, Nat.zero_mul, add_zero', add_zero'] at g7
        exact (cell_in g7).1
      rw [add_eq hsp, add_eq hsp, add_eq rfl]
      simp only
      rw [show a.off + k / 16 * 16 + k % 16 = a.off + k by omega]
    obtain ⟨B, hB⟩ := choose_nat key
    let Dd : Nat → Dig := fun i => ⟨(List.range 16).map fun j => B (i * 16 + j), by simp⟩
    have hdc := dcells_range B len Dd (fun i _ => rfl)
    refine ⟨(List.range len).map Dd, ?_⟩
    rw [hdc, List.length_map, List.length_range]
    refine .list (drel_row (fun k => .int .u8 (B k).toNat) (fun k x hk => ?_) hl (fun h0 => ?_)) trivial
    · rw [List.getElem?_map] at hk
      cases hr : (List.range (len * 16))[k]? with
      | none => rw [hr] at hk; cases hk
      | some q =>
        rw [hr] at hk
        have hlt : k < len * 16 := by simpa using (List.getElem?_eq_some_iff.1 hr).1
        rw [List.getElem?_range hlt] at hr
        injection hr with hr
        subst hr
        simp only [Option.map_some, Option.some.injEq] at hk
        subst hk
        exact ⟨hB k hlt, .v rfl⟩
    · have := congrArg List.length h0
      simp at this; omega
theorem read_digs {t e u : TypeId} {v : Value} {d : DataW H} {ps : List MemPlace} {r : Reach} {b0 : Nat} (ht : P.underlying t = some (.slice e)) (he : P.underlying e = some (.array 16 u)) (hu : P.underlying u = some (.int .u8)) (hcu : P.cellsOf u = 1) (hce : P.cellsOf e = 16)
    (hval : Value.okWide P W r b0 t v) (h : DataW.Trod enc P W 0 sp hd t v d ps) : ∃ l : List Dig, VRel (ini W) W (.list .none l.length (dcells l)) v := by
  obtain ⟨a0, len, cap, rfl⟩ := okWide_slice ht hval
  obtain ⟨fuel, hf⟩ := h
  exact read_digs_c ht he hu hcu hce hf
end
end Go.Proofs.YtnfdepafmmibaaaDoor

