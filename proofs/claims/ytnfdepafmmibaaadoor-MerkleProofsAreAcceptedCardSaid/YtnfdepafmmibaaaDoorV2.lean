/- Calls do in Go what the machine says | Blocks that the machine has already and the world has not yet | A region whose order is open: what the machine did, as a row of steps | What an operation depends on | What an operation asks of memory | The order that a region keeps | A region whose order is open gives, in each order that may be, what the machine says | Regions whose order is open: all orders | Regions whose order is open do what the machine says; and so do calls | Parts of a function, for texts that say what the machine makes of it. Conditions: none. -/
import Derived.Test.YtnfdepafmmibaaaDoorV1
/-! Calls do in Go what the machine says. -/
set_option linter.unusedVariables false
set_option linter.unusedSimpArgs false
namespace Go.Proofs.YtnfdepafmmibaaaDoor
open Go

section
variable {X : Cx} {G G' : Gh} {s s' : St} {w w' : World}

/-- The slots alone. -/
structure TRel (G : Gh) (w : World) (e : Env) (tmps : Array Value) : Prop where
  tmp : ∀ t x, e.tmps[t]? = some x → VRel G w x (tmps.getD t undef)
theorem TRel.ext {e : Env} {tmps : Array Value} (h : TRel G w e tmps) (he : Ext G w G' w') : TRel G' w' e tmps := ⟨fun t x hx => (h.tmp t x hx).ext he⟩
theorem TRel.slot {e : Env} {tmps : Array Value} (h : TRel G w e tmps) (t : Nat) : VRel G w (e.tmps.getD t .undef) (tmps.getD t undef) := by
  rw [List.getD_eq_getElem?_getD]
  cases ht : e.tmps[t]? with
  | none => exact .undef
  | some x => exact h.tmp t x ht

def resSem (tmps : Array Value) : ResultVar → Sem Value
  | .tmp t => pure (tmps.getD t undef)
  | .cell a t => do loadVar t (← asAddr (tmps.getD a undef))

theorem result_ok {e : Env} {tmps : Array Value} (hR : Rel X G s w) (hT : TRel G w e tmps) {r : ResultVar} {x : AV} (h : aResult X e s r = some x) : ∃ y, (resSem tmps r).run X.P w = .ok y w ∧ VRel G w x y := by
  cases r with
  | tmp t =>
    simp only [aResult, Option.some.injEq] at h
    subst h
    exact ⟨_, rfl, hT.slot t⟩
  | cell a t =>
    simp only [aResult] at h
    have hs := hT.slot a
    obtain ⟨y, h1, h2⟩ := ok_load hR hs h
    refine ⟨y, ?_, h2⟩
    show (do loadVar t (← asAddr (tmps.getD a undef))).run X.P w = .ok y w
    generalize tmps.getD a undef = q at h1
    cases q with
    | pointer ad =>
      cases ad with
      | none => simp [Instr.loadAt, Instr.sureAddr] at h1
      | some ad => simpa [Instr.loadAt, Instr.sureAddr, asAddr] using h1
    | _ => simp [Instr.loadAt, Instr.sureAddr] at h1

theorem results_ok {e : Env} {tmps : Array Value} (hR : Rel X G s w) (hT : TRel G w e tmps) : ∀ (rs : List ResultVar) (xs : List AV), aResults X e s rs = some xs → ∃ vs : List Value, (rs.mapM (resSem tmps)).run X.P w = .ok vs w ∧ vs.length = xs.length ∧ ∀ j x, xs[j]? = some x → VRel G w x (vs.getD j undef)
  | [], xs, h => by simp [aResults] at h; subst h; exact ⟨[], rfl, rfl, fun j x hj => by simp at hj⟩
  | r :: rs, xs, h => by
    simp only [aResults, Option.bind_eq_some_iff, Option.map_eq_some_iff] at h
    obtain ⟨x, hx, l, hl, rfl⟩ := h
    obtain ⟨y, y1, y2⟩ := result_ok hR hT hx
    obtain ⟨vs, v1, v2, v3⟩ := results_ok hR hT rs l hl
    refine ⟨y :: vs, ?_, by simp [v2], fun j z hj => ?_⟩
    · rw [List.mapM_cons]
      simp only [Sem.run_bind, y1, Result.andThen_ok, v1, Sem.run_pure]
    · cases j with
      | zero => simp at hj; subst hj; simpa using y2
      | succ j => simpa using v3 j z (by simpa using hj)

theorem run_results (fn : Func) (tmps : Array Value) {vs : List Value} (h : (fn.results.toList.mapM (resSem tmps)).run X.P w = .ok vs w) :
    (results fn tmps).run X.P w = .ok (match vs with | [v] => v | l => .tuple l.toArray) w := by
  have he : results fn tmps = (do
    let vs ← fn.results.mapM (resSem tmps)
    pure (if h : vs.size = 1 then vs[0] else .tuple vs)) := by
    unfold results
    congr 1
  rw [he, Array.mapM_eq_mapM_toList]
  simp only [Sem.run_bind, Sem.run_map, h, Result.andThen_ok, Sem.run_pure]
  congr 1
  match vs with
  | [] => rfl
  | [v] => rfl
  | a :: b :: r => simp

/-- The sizes of the blocks. -/
def szOf (w : World) (g : Nat) : Nat := match w.heap[g]? with | some (.cells cs _ _) => cs.size | _ => 0

theorem outV_rel {f : Frm} {r : St} (hR : Rel X G (f :: r) w) {x : AV} {y : Value} (h : VRel G w x y) : VRel (G.cut r.length 0 0 (szOf w)) w (outV r.length f X.P x) y := by
  have nt' : ∀ x : AV, (∀ d k n cs, x ≠ .list (.own d k) n cs) → ∀ d k n cs c, x = .list (.own d k) n cs → G.cur d k = some c → stays r.length 0 d k := fun x hx d k n cs c h => absurd h (hx d k n cs)
  cases x with
  | list tag n cs =>
    cases tag with
    | own d k =>
      simp only [outV]
      split
      · rename_i hc
        exact h.cut trivial fun d' k' n' cs' c hx _ => by cases hx; exact .inl hc
      · cases h with | list h _ => exact .list (h.st_mono cut_imm) trivial
    | none => exact h.cut trivial (nt' _ (by simp))
    | full => exact h.cut trivial (nt' _ (by simp))
  | ptr d k o =>
    simp only [outV]
    split
    · rename_i hc; exact h.cut (.inl hc) (nt' _ (by simp))
    · exact .undef
  | msl d k o n c =>
    simp only [outV]
    split
    · rename_i hc; exact h.cut (.inl hc) (nt' _ (by simp))
    · rename_i hd
      split
      · rename_i b hb
        split
        · rename_i cs hcs
          split
          · rename_i hc
            cases h with
            | msl hbl hn =>
              rename_i g
              obtain ⟨b', cells, h1, h2, h3, h4, h5⟩ := hR.blk d k g hbl
              have hlt := getBlk_lt h1
              simp only [List.length_cons] at hlt
              have hdr : d = r.length := by omega
              rw [getBlk_cons, if_pos hdr, hb] at h1
              injection h1 with h1
              subst h1
              have hst : (G.cut r.length 0 0 (szOf w)).st g = .imm cells.size none := by
                simp only [Gh.cut, (hR.st d k g).1 hbl]
                rw [if_neg (by unfold stays; omega)]
                simp [szOf, h2]
              obtain ⟨d1, d2⟩ := dvs_get hcs
              have hlen : cs.length = n * X.P.cellsOf b.ty := by rw [d1]; simp; omega
              have hdr' : DRel (G.cut r.length 0 0 (szOf w)).st w (.list n cs) (.slice (some ⟨g, o, none⟩) n c) := by
                rcases Nat.eq_zero_or_pos n with h0 | h0
                · subst h0
                  have : cs = [] := List.eq_nil_of_length_eq_zero (by rw [hlen]; simp)
                  subst this
                  exact .nil
                · have hpos : 0 < n * X.P.cellsOf b.ty := Nat.mul_pos h0 hc.1
                  refine .list (fun j => cells.getD (o + j) undef) hn hst (by omega) (fun e => by rw [e] at hlen; simp at hlen; omega) (fun j z hj => ?_) (fun j z hj => ?_)
                  · have := (List.getElem?_eq_some_iff.1 hj).1
                    rw [cell_of h2, some_getD (by omega)]
                  · obtain ⟨q, hq, hqd⟩ := d2 j z hj
                    rw [List.getElem?_take] at hq
                    split at hq
                    · rw [List.getElem?_drop] at hq
                      exact (dv_rel (h5 _ q hq) hqd).st_mono cut_imm
                    · cases hq
              refine .list hdr' ?_
              split
              · rename_i hnc; subst hnc; exact ⟨_, rfl⟩
              · trivial
          · exact .undef
        · exact .undef
      · exact .undef
  | fn f caps =>
    simp only [outV]
    split
    · rename_i hc
      exact h.cut (fn_all_ok (fun d k hp => .inl (by simpa using hp)) hc) (nt' _ (by simp))
    · exact .undef
  | agg cs => exact (agg_strip h).cut (agg_strip_ok _ _ cs) (nt' _ (by simp))
  | tuple cs => exact .undef
  | undef => exact .undef
  | v y => exact h.cut trivial (nt' _ (by simp))
  | lptr cs o => exact h.cut trivial (nt' _ (by simp))

theorem rel_pop {f : Frm} {r : St} (hR : Rel X G (f :: r) w) (sz : Nat → Nat) : Rel X (G.cut r.length 0 0 sz) r w := by
  refine rel_cut hR _ _ _ sz r (fun d k hs => ?_) (fun d k b h => ?_) (fun d k c hs _ => ?_) (fun d k b hs h => ?_)
  · rw [getBlk_cons, if_neg (by unfold stays at hs; omega)]
  · have := getBlk_lt h
    rw [getBlk_cons, if_neg (by omega)]; exact h
  · rw [getTok_cons, if_neg (by unfold stays at hs; omega)]
  · exact .inl (.inl (by unfold stays at hs; omega))

/-- A call's start. -/
theorem rel_push (hR : Rel X G s w) : Rel X G ({ blks := [], toks := [] } :: s) w where
  st := hR.st
  blk d k g h := by
    obtain ⟨b, cs, h1, h2⟩ := hR.blk d k g h
    exact ⟨b, cs, by rw [getBlk_cons, if_neg (by have := getBlk_lt h1; omega)]; exact h1, h2⟩
  fit d k b h := by
    rw [getBlk_cons] at h
    split at h
    · simp at h
    · exact hR.fit d k b h
  tok d k m l u h := by
    obtain ⟨h1, h2⟩ := hR.tok d k m l u h
    exact ⟨by rw [getTok_cons, if_neg (by have := getTok_lt h1; omega)]; exact h1, h2⟩
  glob := hR.glob
  free := hR.free
  no d k h := by
    obtain ⟨h1, b, h2⟩ := hR.no d k h
    exact ⟨h1, b, by rw [getBlk_cons, if_neg (by have := getBlk_lt h2; omega)]; exact h2⟩

theorem env_start {args : List AV} {vs : Array Value} (h : ARel G w args vs) (n : Nat) :
    EnvRel G w { tmps := args ++ List.replicate (n - args.length) .undef, ds := [] } { tmps := vs ++ Array.replicate (n - vs.size) undef, defers := [] } := by
  refine ⟨by simp [h.size], fun t x hx => ?_, rfl, fun i p hi => by simp at hi⟩
  simp only at hx
  rw [List.getElem?_append] at hx
  split at hx
  · rename_i hlt
    have := h.at_ t x hx
    rw [Array.getD_eq_getD_getElem?] at this ⊢
    rw [Array.getElem?_append_left (by rw [h.size]; exact hlt)]
    exact this
  · rw [List.getElem?_replicate] at hx
    split at hx
    · injection hx with hx; subst hx; exact .undef
    · cases hx

/-- What is known when a body has come to its end. -/
theorem leave_ok {e : Env} {tmps : Array Value} {fn : Func} {xs : List AV} {r : AV} (hR : Rel X G s w) (hT : TRel G w e tmps) (hx : aResults X e s fn.results.toList = some xs) (hl : leave X.P xs s = some (r, s')) :
    ∃ v, (results fn tmps).run X.P w = .ok v w ∧ ∃ D, s'.length = D ∧ s.length = D + 1 ∧ Rel X (G.cut D 0 0 (szOf w)) s' w ∧ VRel (G.cut D 0 0 (szOf w)) w r v := by
  obtain ⟨vs, v1, v2, v3⟩ := results_ok hR hT _ xs hx
  have hrun := run_results fn tmps v1
  unfold leave at hl
  split at hl
  · cases hl
  · rename_i f r
    simp only [Option.some.injEq, Prod.mk.injEq] at hl
    obtain ⟨rfl, rfl⟩ := hl
    refine ⟨_, hrun, r.length, rfl, rfl, rel_pop hR _, ?_⟩
    have hall : ∀ j x, xs[j]? = some x → VRel (G.cut r.length 0 0 (szOf w)) w (outV r.length f X.P x) (vs.getD j undef) := fun j x hj => outV_rel hR (v3 j x hj)
    have tup : VRel (G.cut r.length 0 0 (szOf w)) w (.tuple (xs.map (outV r.length f X.P))) (.tuple vs.toArray) := by
      refine .tuple (by simp [v2]) fun j z hj => ?_
      rw [List.getElem?_map] at hj
      cases hq : xs[j]? with
      | none => rw [hq] at hj; simp at hj
      | some q =>
        rw [hq] at hj
        simp at hj
        subst hj
        have := hall j q hq
        simpa [Array.getD_eq_getD_getElem?, List.getD_eq_getElem?_getD] using this
    match xs, vs, v2 with
    | [], [], _ => exact tup
    | [x], [v], _ => simpa using hall 0 x rfl
    | a :: b :: l, u :: v :: m, _ => exact tup

/-- What is known stays known when a block of plain data gets an owner. -/
theorem VRel.adopt {x : AV} {y : Value} (h : VRel G w x y) (hst : ∀ g lim own, G.st g = .imm lim own → ∃ own', G'.st g = .imm lim own') (hbl : G'.bl = G.bl) (hcu : ∀ d k c, G.cur d k = some c → G'.cur d k = some c) : VRel G' w x y := by
  induction h with
  | undef => exact .undef
  | v h => exact .v h
  | list h ht =>
    rename_i tag _ _ _
    refine .list (h.st_mono hst) ?_
    cases tag with
    | none => trivial
    | full => exact ht
    | own d k =>
      obtain ⟨m, l, u, a, b⟩ := ht
      exact ⟨m, l, u, hcu _ _ _ a, b⟩
  | ptr h => exact .ptr (by rw [hbl]; exact h)
  | lptr hne h => exact .lptr hne (h.st_mono hst)
  | msl h hn => exact .msl (by rw [hbl]; exact h) hn
  | fn hs _ ih => exact .fn hs ih
  | agg h1 hs _ ih => exact .agg h1 hs ih
  | tuple hs _ ih => exact .tuple hs ih

/-- The ghost in which block g belongs to the list (D, K). -/
def Gh.adopt (G : Gh) (g D K l : Nat) (c : Nat × Nat × Value) : Gh :=
  { G with st := fun i => if i = g then .imm l (some (D, K)) else G.st i, cur := fun d k => if d = D ∧ k = K then some c else G.cur d k }

theorem leaveG_ok {e : Env} {tmps : Array Value} {fn : Func} {xs : List AV} {r : AV} (hR : Rel X G s w) (hT : TRel G w e tmps) (hx : aResults X e s fn.results.toList = some xs) (hl : leaveG X.P xs s = some (r, s')) :
    ∃ v G2, (results fn tmps).run X.P w = .ok v w ∧ ∃ D, s'.length = D ∧ s.length = D + 1 ∧ Rel X G2 s' w ∧ VRel G2 w r v ∧
      ∀ G0 w0, Ext G0 w0 G w → (∀ d k g, G0.bl d k = some g → stays D 0 d k) → (∀ d k c, G0.cur d k = some c → stays D 0 d k) → (∀ d k, G0.no d k → stays D 0 d k) → Ext G0 w0 G2 w := by
  have plain : leave X.P xs s = some (r, s') → ∃ v G2, (results fn tmps).run X.P w = .ok v w ∧ ∃ D, s'.length = D ∧ s.length = D + 1 ∧ Rel X G2 s' w ∧ VRel G2 w r v ∧
      ∀ G0 w0, Ext G0 w0 G w → (∀ d k g, G0.bl d k = some g → stays D 0 d k) → (∀ d k c, G0.cur d k = some c → stays D 0 d k) → (∀ d k, G0.no d k → stays D 0 d k) → Ext G0 w0 G2 w := fun h => by
    obtain ⟨v, hv, D, e2, e3, e4, e5⟩ := leave_ok hR hT hx h
    exact ⟨v, _, hv, D, e2, e3, e4, e5, fun G0 w0 he a b c => he.cut a b c⟩
  unfold leaveG at hl
  split at hl
  · rename_i d k n cs f f1 r1
    split at hl
    · rename_i hc
      obtain ⟨hd, htk, hn⟩ := hc
      subst hd
      simp only [Option.some.injEq, Prod.mk.injEq] at hl
      obtain ⟨rfl, rfl⟩ := hl
      obtain ⟨vs, v1, v2, v3⟩ := results_ok hR hT _ _ hx
      have hrun := run_results fn tmps v1
      obtain ⟨u, rfl⟩ : ∃ u, vs = [u] := by
        match vs, v2 with
        | [u], _ => exact ⟨u, rfl⟩
      have hu : VRel G w (.list (.own (r1.length + 1) k) n cs) u := by simpa using v3 0 _ rfl
      cases hu with
      | list hD ht =>
      obtain ⟨m, l, u', hcur, hnm, heq⟩ := ht
      obtain ⟨ht1, ht2⟩ := hR.tok _ _ _ _ _ hcur
      rw [getTok_cons, if_pos (by simp)] at ht1
      have hmn : m = n := by rw [htk] at ht1; exact (Option.some.inj ht1).symm
      subst hmn
      obtain ⟨rfl, hlen⟩ := heq rfl
      rcases ht2 with ⟨a, _, h0, _⟩ | ⟨g, c, sz, ty, csb, hue, hm0, hmc, hst, hheap, hlm, hcsb⟩
      · omega
      · subst hue
        have hp := rel_pop hR (szOf w)
        have hDl : (f1 :: r1).length = r1.length + 1 := rfl
        rw [hDl] at hp
        have hG1 : (G.cut (r1.length + 1) 0 0 (szOf w)).st g = .imm l none := by
          simp only [Gh.cut, hst]
          rw [if_neg (by unfold stays; omega)]
        have hK : (G.cut (r1.length + 1) 0 0 (szOf w)).cur r1.length f1.toks.length = none := by
          cases hc : (G.cut (r1.length + 1) 0 0 (szOf w)).cur r1.length f1.toks.length with
          | none => rfl
          | some p =>
            obtain ⟨m2, l2, u2⟩ := p
            have := (hp.tok _ _ _ _ _ hc).1
            rw [getTok_cons, if_pos rfl] at this
            have := (List.getElem?_eq_some_iff.1 this).1
            omega
        generalize hGe : G.cut (r1.length + 1) 0 0 (szOf w) = G1 at *
        have hstm : ∀ i lim own, G1.st i = .imm lim own → ∃ own', (G1.adopt g r1.length f1.toks.length l (m, l, .slice (some ⟨g, 0, none⟩) m c)).st i = .imm lim own' := fun i lim own hi => by
          simp only [Gh.adopt]
          split
          · rename_i he; subst he; rw [hG1] at hi; injection hi with h1 _; subst h1; exact ⟨_, rfl⟩
          · exact ⟨own, hi⟩
        have hcm : ∀ d k c', G1.cur d k = some c' → (G1.adopt g r1.length f1.toks.length l (m, l, .slice (some ⟨g, 0, none⟩) m c)).cur d k = some c' := fun d k c' hc' => by
          simp only [Gh.adopt]
          rw [if_neg (by rintro ⟨rfl, rfl⟩; rw [hK] at hc'; cases hc')]
          exact hc'
        have hv : ∀ {x : AV} {y : Value}, VRel G1 w x y → VRel (G1.adopt g r1.length f1.toks.length l (m, l, .slice (some ⟨g, 0, none⟩) m c)) w x y := fun h => h.adopt hstm rfl hcm
        have hgb : ∀ d k, getBlk ({ f1 with toks := f1.toks ++ [m] } :: r1) d k = getBlk (f1 :: r1) d k := fun d k => by simp only [getBlk_cons]
        have hne : ∀ d k, G1.bl d k ≠ some g := fun d k h => by
          have := (hp.st d k g).1 h
          rw [hG1] at this; cases this
        refine ⟨_, G1.adopt g r1.length f1.toks.length l (m, l, .slice (some ⟨g, 0, none⟩) m c), hrun, r1.length + 1, rfl, rfl, ?_, ?_, ?_⟩
        · refine ⟨fun d k i => ?_, fun d k i h => ?_, fun d k b h => hp.fit d k b (by rw [← hgb]; exact h), fun d k m2 l2 u2 h => ?_, fun i => hv (hp.glob i), fun i hi => ?_, fun d k h => by rw [hgb]; exact hp.no d k h⟩
          · simp only [Gh.adopt]
            split
            · rename_i he; subst he
              exact ⟨fun h => absurd h (hne d k), fun h => by cases h⟩
            · exact hp.st d k i
          · obtain ⟨b, cs', h1, h2, h3, h4, h5⟩ := hp.blk d k i h
            exact ⟨b, cs', by rw [hgb]; exact h1, h2, h3, h4, fun j x hj => hv (h5 j x hj)⟩
          · simp only [Gh.adopt] at h
            split at h
            · rename_i hc2
              obtain ⟨rfl, rfl⟩ := hc2
              injection h with h
              injection h with h1 h2
              injection h2 with h2 h3
              subst h1 h2 h3
              refine ⟨by rw [getTok_cons, if_pos rfl]; simp, .inr ⟨g, c, sz, ty, csb, rfl, hm0, hmc, by simp [Gh.adopt], hheap, hlm, hcsb⟩⟩
            · obtain ⟨h1, h2⟩ := hp.tok d k m2 l2 u2 h
              refine ⟨?_, h2.frame (fun i l o hi => ⟨?_, rfl⟩)⟩
              · rw [getTok_cons] at h1 ⊢
                split
                · rename_i hd
                  rw [if_pos hd] at h1
                  rw [List.getElem?_append_left (List.getElem?_eq_some_iff.1 h1).1]
                  exact h1
                · rename_i hd; rw [if_neg hd] at h1; exact h1
              · simp only [Gh.adopt]
                rw [if_neg (by rintro rfl; rw [hG1] at hi; cases hi)]
                exact hi
          · simp only [Gh.adopt]
            have := hp.free i hi
            rw [if_neg (by rintro rfl; rw [hG1] at this; cases this)]
            exact this
        · refine .list ((hD.st_mono (cut_imm (D := r1.length + 1) (nb := 0) (nt := 0) (sz := szOf w))).st_mono (by rw [hGe]; exact hstm)) ⟨m, l, _, by simp [Gh.adopt], Nat.le_refl _, fun _ => ⟨rfl, hlen⟩⟩
        · intro G0 w0 he ha hb hc
          have hcut := he.cut (D := r1.length + 1) (nb := 0) (nt := 0) (sz := szOf w) ha hb hc
          rw [hGe] at hcut
          refine ⟨he.os, he.tape, he.output, he.size, fun i hi hf => ?_, fun d k i h => hcut.bl d k i h, fun i lim own hi => ?_, fun d k m2 l2 u2 h => ?_, fun d k h => hcut.no d k h⟩
          · obtain ⟨q1, q2⟩ := hcut.free i hi hf
            refine ⟨q1, ?_⟩
            simp only [Gh.adopt]
            rw [if_neg (by rintro rfl; rw [hG1] at q2; cases q2)]
            exact q2
          · obtain ⟨l', o', q1, q2, q3, q4⟩ := hcut.imm i lim own hi
            obtain ⟨o2, q5⟩ := hstm i l' o' q1
            refine ⟨l', o2, q5, q2, q3, fun ho => ⟨(q4 ho).1, ?_⟩⟩
            by_cases hig : i = g
            · subst hig
              obtain ⟨l3, o3, z1, _, _, z4⟩ := he.imm i lim own hi
              have := (z4 ho).2
              subst this
              rw [hst] at z1; cases z1
            · simp only [Gh.adopt] at q5
              rw [if_neg hig, q1, (q4 ho).2] at q5
              injection q5 with _ q5
              exact q5.symm
          · obtain ⟨m3, l3, u3, q1, q2, q3⟩ := hcut.cur d k m2 l2 u2 h
            exact ⟨m3, l3, u3, hcm _ _ _ q1, q2, q3⟩
    · exact plain hl
  · exact plain hl

theorem goOut_ok {f : FuncId} {e : Env} {tmps : Array Value} {fn : Func} {xs : List AV} {r : AV} (hR : Rel X G s w) (hT : TRel G w e tmps) (hx : aResults X e s fn.results.toList = some xs) (hl : goOut X f xs s = some (r, s')) :
    ∃ v G2, (results fn tmps).run X.P w = .ok v w ∧ ∃ D, s'.length = D ∧ s.length = D + 1 ∧ Rel X G2 s' w ∧ VRel G2 w r v ∧
      ∀ G0 w0, Ext G0 w0 G w → (∀ d k g, G0.bl d k = some g → stays D 0 d k) → (∀ d k c, G0.cur d k = some c → stays D 0 d k) → (∀ d k, G0.no d k → stays D 0 d k) → Ext G0 w0 G2 w := by
  unfold goOut at hl
  split at hl
  · exact leaveG_ok hR hT hx hl
  · obtain ⟨v, hv, D, e2, e3, e4, e5⟩ := leave_ok hR hT hx hl
    exact ⟨v, _, hv, D, e2, e3, e4, e5, fun G0 w0 he a b c => he.cut a b c⟩
theorem leave_length {P : Program} {xs : List AV} {r : AV} (h : leave P xs s = some (r, s')) : s.length = s'.length + 1 := by
  unfold leave at h
  split at h
  · cases h
  · simp only [Option.some.injEq, Prod.mk.injEq] at h
    obtain ⟨_, rfl⟩ := h
    rfl
theorem goOut_length {f : FuncId} {xs : List AV} {r : AV} (h : goOut X f xs s = some (r, s')) : s.length = s'.length + 1 := by
  unfold goOut at h
  split at h
  · unfold leaveG at h
    split at h
    · split at h
      · simp only [Option.some.injEq, Prod.mk.injEq] at h
        obtain ⟨_, rfl⟩ := h
        rfl
      · exact leave_length h
    · exact leave_length h
  · exact leave_length h

theorem defers_ok {df : CallF} (hdf : DFOk X df) {fn : Func} {tmps : Array Value} {R : Ending → World → Prop} {e : Env} : ∀ (ps : List (FuncId × List AV)) (dl : List Deferred) (s : St) (s' : St) (G : Gh) (w : World), runDefers df ps s = some s' →
    dl.length = ps.length → (∀ (i : Nat) (p : FuncId × List AV), ps[i]? = some p → ∃ d, dl[i]? = some d ∧ DefRel G w p d) → Rel X G s w →
    s'.length = s.length ∧ ((∀ G' w', Rel X G' s' w' → Ext G w G' w' → Leaves X.P fn tmps R [] .returning w') → Leaves X.P fn tmps R dl .returning w)
  | [], dl, s, s', G, w, h, hl, hp, hR => by
    simp [runDefers] at h
    subst h
    have := List.eq_nil_of_length_eq_zero (l := dl) (by simpa using hl)
    subst this
    exact ⟨rfl, fun hQ => hQ G w hR (.refl G w)⟩
  | p :: ps, dl, s, s', G, w, h, hl, hp, hR => by
    simp only [runDefers] at h
    split at h
    · cases h
    rename_i hmk
    simp only [Option.bind_eq_some_iff] at h
    obtain ⟨⟨r, s1⟩, h1, h2⟩ := h
    have hd := hdf p.1 p.2 s r s1 h1
    cases dl with
    | nil => simp at hl
    | cons d dl =>
      obtain ⟨d', e1, e2⟩ := hp 0 p rfl
      rcases e2 with ⟨e2, _⟩ | ⟨caps, args, e2, e3⟩
      · rw [e2] at hmk; exact absurd hmk (by decide)
      simp at e1
      subst e1
      have hlen : ∀ (dl : List Deferred) (G1 : Gh) (w1 : World), Rel X G1 s1 w1 → (∀ (i : Nat) (p : FuncId × List AV), ps[i]? = some p → ∃ d, dl[i]? = some d ∧ DefRel G1 w1 p d) → dl.length = ps.length → _ := fun dl G1 w1 hR1 hp1 hl1 => defers_ok hdf (fn := fn) (tmps := tmps) (R := R) (e := e) ps dl s1 s' G1 w1 h2 hl1 hp1 hR1
      have slen : s'.length = s1.length := by
        have gen : ∀ (ps : List (FuncId × List AV)) (s s' : St), runDefers df ps s = some s' → s'.length = s.length := by
          intro ps
          induction ps with
          | nil => intro s s' h; simp [runDefers] at h; rw [h]
          | cons p ps ih =>
            intro s s' h
            simp only [runDefers] at h
            split at h
            · cases h
            simp only [Option.bind_eq_some_iff] at h
            obtain ⟨⟨r, s1⟩, h1, h2⟩ := h
            exact (ih s1 s' h2).trans (hdf _ _ _ _ _ h1).len
        exact gen ps s1 s' h2
      refine ⟨slen.trans hd.len, fun hQ => ?_⟩
      refine ⟨by simp, .func p.1, caps, p.1, args ++ caps, by rw [e2], ?_, ?_⟩
      · rw [e2]
        simp only [invoke]
        exact run_callFunc hd.callable _ w
      · refine (hd.run G w _ hR e3).mono fun en u w' hen => ?_
        obtain ⟨rfl, v, G', rfl, r1, r2⟩ := hen
        simp only
        have hset : settle (.returning : FrameMode) = .returning := rfl
        rw [hset]
        refine (hlen dl G' w' r1 (fun i q hi => ?_) (by simpa using hl)).2 fun G2 w2 q1 q2 => hQ G2 w2 q1 (r2.trans q2)
        obtain ⟨d2, k1, k2⟩ := hp (i + 1) q (by simpa using hi)
        exact ⟨d2, by simpa using k1, k2.ext r2⟩

theorem stays_bl (hR : Rel X G s w) {d k g : Nat} (h : G.bl d k = some g) : stays s.length 0 d k := by
  obtain ⟨b, _, h1, _⟩ := hR.blk d k g h
  exact .inl (getBlk_lt h1)
theorem stays_cur (hR : Rel X G s w) {d k : Nat} {c : Nat × Nat × Value} (h : G.cur d k = some c) : stays s.length 0 d k := by
  obtain ⟨m, l, u⟩ := c
  exact .inl (getTok_lt (hR.tok d k m l u h).1)

theorem stays_no (hR : Rel X G s w) {d k : Nat} (h : G.no d k) : stays s.length 0 d k := by
  obtain ⟨_, b, h1⟩ := hR.no d k h
  exact .inl (getBlk_lt h1)

theorem body_sound {cf df : CallF} (hcf : CFOk X cf) (hD : RegionsOk X cf) (hdf : DFOk X df) (n : Nat) {f : FuncId} {fn : Func} {c : Code} (hf : X.P.funcs[f]? = some fn) (hb : fn.body = some c) (hname : (fn.name == "runtime.NumGoroutine") = false) {args : List AV} {r : AV}
    (h : abody X cf n f fn c (aEnd X f df fn.results.toList) args s = some (r, s')) : RefC X f args s r s' := by
  unfold abody at h
  obtain ⟨x, e1, s1, h1, h2⟩ := acode_sound hcf hD n _ c _ _ _ _ h
  have hres : ∃ s2 xs, runDefers df e1.ds s1 = some s2 ∧ aResults X e1 s2 fn.results.toList = some xs ∧ goOut X f xs s2 = some (r, s') ∧ (x = .normal ∨ x = .ret) := by
    cases x with
    | exit id => simp [aEnd] at h1
    | normal =>
      simp only [aEnd, Option.bind_eq_some_iff] at h1
      obtain ⟨s2, a, xs, b, c⟩ := h1
      exact ⟨s2, xs, a, b, c, .inl rfl⟩
    | ret =>
      simp only [aEnd, Option.bind_eq_some_iff] at h1
      obtain ⟨s2, a, xs, b, c⟩ := h1
      exact ⟨s2, xs, a, b, c, .inr rfl⟩
  obtain ⟨s2, xs, k1, k2, k3, k4⟩ := hres
  have hl2 : s2.length = s1.length := by
    have gen : ∀ (ps : List (FuncId × List AV)) (s s' : St), runDefers df ps s = some s' → s'.length = s.length := by
      intro ps
      induction ps with
      | nil => intro s s' h; simp [runDefers] at h; rw [h]
      | cons p ps ih =>
        intro s s' h
        simp only [runDefers] at h
        split at h
        · cases h
        simp only [Option.bind_eq_some_iff] at h
        obtain ⟨⟨r, s1⟩, h1, h2⟩ := h
        exact (ih s1 s' h2).trans (hdf _ _ _ _ _ h1).len
    exact gen _ _ _ k1
  have hl1 : s1.length = s.length + 1 := by rw [h2.len]; rfl
  have hls : s'.length = s.length := by
    have := goOut_length k3
    omega
  refine ⟨hls, ⟨fn, hf, by simp [hb], hname⟩, fun G w vs hR hA => calls_of_wp_defers hf hb ?_⟩
  refine h2.run G w _ _ (rel_push hR) (env_start hA fn.ntmps) fun G1 w1 a1 r1 r2 r3 => ?_
  have hd := defers_ok hdf (fn := fn) (tmps := a1.tmps) (R := fun e w' => ∃ v G', e = .returned v ∧ Rel X G' s' w' ∧ Ext G w G' w' ∧ VRel G' w' r v) (e := e1) e1.ds a1.defers s1 s2 G1 w1 k1 r3.dlen r3.dat r1
  have hleaves : Leaves X.P fn a1.tmps (fun e w' => ∃ v G', e = .returned v ∧ Rel X G' s' w' ∧ Ext G w G' w' ∧ VRel G' w' r v) a1.defers .returning w1 := by
    refine hd.2 fun G2 w2 q1 q2 => ?_
    have hT : TRel G2 w2 e1 a1.tmps := ⟨fun t x hx => (r3.tmp t x hx).ext q2⟩
    obtain ⟨v, G3, hv, D, e2, e3, e4, e5, e6⟩ := goOut_ok q1 hT k2 k3
    refine ⟨v, hv, v, _, rfl, e4, e6 _ _ (r2.trans q2) (fun d k g hg => ?_) (fun d k c hc => ?_) (fun d k hn => ?_), e5⟩
    · have := stays_bl hR hg; rw [← e2, hls]; exact this
    · have := stays_cur hR hc; rw [← e2, hls]; exact this
    · have := stays_no hR hn; rw [← e2, hls]; exact this
  rcases k4 with rfl | rfl <;> exact hleaves

theorem bodyN_sound {cf : CallF} (hcf : CFOk X cf) (hD : RegionsOk X cf) (n : Nat) {f : FuncId} {fn : Func} {c : Code} (hf : X.P.funcs[f]? = some fn) (hb : fn.body = some c) (hname : (fn.name == "runtime.NumGoroutine") = false) {args : List AV} {r : AV}
    (h : abody X cf n f fn c (aEndN X fn.results.toList) args s = some (r, s')) : RefD X f args s s' := by
  unfold abody at h
  obtain ⟨x, e1, s1, h1, h2⟩ := acode_sound hcf hD n _ c _ _ _ _ h
  have hres : ∃ xs, e1.ds = [] ∧ aResults X e1 s1 fn.results.toList = some xs ∧ leave X.P xs s1 = some (r, s') ∧ (x = .normal ∨ x = .ret) := by
    cases x with
    | exit id => simp [aEndN] at h1
    | normal =>
      simp only [aEndN] at h1
      split at h1
      · rename_i hds
        simp only [Option.bind_eq_some_iff] at h1
        obtain ⟨xs, b, c⟩ := h1
        exact ⟨xs, hds, b, c, .inl rfl⟩
      · cases h1
    | ret =>
      simp only [aEndN] at h1
      split at h1
      · rename_i hds
        simp only [Option.bind_eq_some_iff] at h1
        obtain ⟨xs, b, c⟩ := h1
        exact ⟨xs, hds, b, c, .inr rfl⟩
      · cases h1
  obtain ⟨xs, k1, k2, k3, k4⟩ := hres
  have hl1 : s1.length = s.length + 1 := by rw [h2.len]; rfl
  have hls : s'.length = s.length := by
    unfold leave at k3
    split at k3
    · cases k3
    · simp only [Option.some.injEq, Prod.mk.injEq] at k3
      obtain ⟨_, rfl⟩ := k3
      simp only [List.length_cons] at hl1
      omega
  refine ⟨hls, ⟨fn, hf, by simp [hb], hname⟩, fun G w vs hR hA => ?_⟩
  refine (callsD_of_wp (u := .returning) (R := fun e w' => ∃ v G', e = .returned v ∧ Rel X G' s' w' ∧ Ext G w G' w') hf hb ?_).mono fun e u w' he => he
  refine h2.run G w _ _ (rel_push hR) (env_start hA fn.ntmps) fun G1 w1 a1 r1 r2 r3 => ?_
  have hd0 : a1.defers = [] := List.eq_nil_of_length_eq_zero (by rw [r3.dlen, k1]; rfl)
  have hT : TRel G1 w1 e1 a1.tmps := ⟨r3.tmp⟩
  obtain ⟨v, hv, D, e2, e3, e4, e5⟩ := leave_ok r1 hT k2 k3
  have hfin : a1.defers = [] ∧ ∃ v, (results fn a1.tmps).run X.P w1 = .ok v w1 ∧ ∃ v' G', Ending.returned v = .returned v' ∧ Rel X G' s' w1 ∧ Ext G w G' w1 := by
    refine ⟨hd0, v, hv, v, _, rfl, e4, r2.cut (fun d k g hg => ?_) (fun d k c hc => ?_) (fun d k hn => ?_)⟩
    · have := stays_bl hR hg; rw [← e2, hls]; exact this
    · have := stays_cur hR hc; rw [← e2, hls]; exact this
    · have := stays_no hR hn; rw [← e2, hls]; exact this
  rcases k4 with rfl | rfl <;> exact hfin

/-- What is asked of a program ahead of all calls. -/
structure CxOk (X : Cx) : Prop where
  names : ∀ (f : FuncId) (fn : Func), X.P.funcs[f]? = some fn → (fn.name == "runtime.NumGoroutine") = false
  oracle : ∀ f g, X.oracle f = some g → ∀ args s r s', g args s = some (r, s') → RefC X f args s r s'
  regions : ∀ cf, CFOk X cf → RegionsOk X cf

theorem adef_sound (hX : CxOk X) {cf : CallF} (hcf : CFOk X cf) (n : Nat) : DFOk X (adef X cf n) := by
  intro f args s r s' h
  unfold adef at h
  split at h
  · cases h
  · split at h
    · cases h
    · rename_i fn hf
      split at h
      · cases h
      · rename_i c hb
        exact bodyN_sound hcf (hX.regions cf hcf) n hf hb (hX.names f fn hf) h

theorem acall_sound (hX : CxOk X) : ∀ n, CFOk X (acall X n)
  | 0 => fun f args s r s' h => by cases h
  | n + 1 => fun f args s r s' h => by
    have ih := acall_sound hX n
    simp only [acall] at h
    split at h
    · rename_i g hg
      exact hX.oracle f g hg args s r s' h
    · split at h
      · cases h
      · rename_i fn hf
        split at h
        · cases h
        · rename_i c hb
          exact body_sound ih (hX.regions _ ih) (adef_sound hX ih n) n hf hb (hX.names f fn hf) h
end
end Go.Proofs.YtnfdepafmmibaaaDoor

/-! Blocks that the machine has already and the world has not yet. -/
set_option linter.unusedVariables false
set_option linter.unusedSimpArgs false
namespace Go.Proofs.YtnfdepafmmibaaaDoor
open Go

section
variable {X : Cx} {G G' : Gh} {s s' : St} {w w' : World}

def Gh.resv (G : Gh) (d k : Nat) : Gh := { G with no := fun d' k' => (d' = d ∧ k' = k) ∨ G.no d' k' }

theorem ext_resv (G : Gh) (w : World) (d k : Nat) : Ext G w (G.resv d k) w :=
  ⟨rfl, rfl, rfl, Nat.le_refl _, fun _ _ h => ⟨rfl, h⟩, fun _ _ _ h => h, fun g lim own h => ⟨lim, own, h, Nat.le_refl _, fun _ _ => rfl, fun ho => ⟨rfl, ho⟩⟩,
    fun d k m l u h => ⟨m, l, u, h, Nat.le_refl _, fun _ => ⟨rfl, rfl⟩⟩, fun _ _ h => .inr h⟩

theorem rel_resv {f : Frm} {r : St} (hR : Rel X G (f :: r) w) (b : Blk) (hfit : ∀ x ∈ b.cells, fit r.length f.blks.length b.tk x = x) :
    Rel X (G.resv r.length f.blks.length) ({ f with blks := f.blks ++ [b] } :: r) w := by
  have he := ext_resv G w r.length f.blks.length
  have old : ∀ d k b', getBlk (f :: r) d k = some b' → getBlk ({ f with blks := f.blks ++ [b] } :: r) d k = some b' := fun d k b' h1 => by
    rw [getBlk_cons] at h1 ⊢
    split
    · rename_i hd
      rw [if_pos hd] at h1
      rw [List.getElem?_append_left (List.getElem?_eq_some_iff.1 h1).1]
      exact h1
    · rename_i hd; rw [if_neg hd] at h1; exact h1
  refine ⟨hR.st, fun d k g h => ?_, fun d k b' h => ?_, fun d k m l u h => ?_, fun g => (hR.glob g).ext he, hR.free, fun d k h => ?_⟩
  · obtain ⟨b', cs, h1, h2, h3, h4, h5⟩ := hR.blk d k g h
    exact ⟨b', cs, old d k b' h1, h2, h3, h4, fun j x hj => (h5 j x hj).ext he⟩
  · rw [getBlk_cons] at h
    split at h
    · rename_i hd
      rw [List.getElem?_append] at h
      split at h
      · exact hR.fit d k b' (by rw [getBlk_cons, if_pos hd]; exact h)
      · rename_i hk
        have : k - f.blks.length = 0 := by
          have := (List.getElem?_eq_some_iff.1 h).1
          simp at this; omega
        rw [this] at h
        simp at h
        subst h
        have hk' : k = f.blks.length := by omega
        subst hd hk'
        exact hfit
    · rename_i hd
      exact hR.fit d k b' (by rw [getBlk_cons, if_neg hd]; exact h)
  · obtain ⟨h1, h2⟩ := hR.tok d k m l u h
    exact ⟨by rw [getTok_cons] at h1 ⊢; exact h1, h2.frame fun g l o h => ⟨h, rfl⟩⟩
  · rcases h with ⟨rfl, rfl⟩ | h
    · refine ⟨?_, b, by rw [getBlk_cons, if_pos rfl]; simp⟩
      show G.bl _ _ = none
      cases hb : G.bl r.length f.blks.length with
      | none => rfl
      | some g =>
        obtain ⟨b', _, h1, _⟩ := hR.blk _ _ _ hb
        rw [getBlk_cons, if_pos rfl] at h1
        have := (List.getElem?_eq_some_iff.1 h1).1
        omega
    · obtain ⟨h1, b', h2⟩ := hR.no d k h
      exact ⟨h1, b', old d k b' h2⟩

theorem VRel.same {x : AV} {y : Value} (h : VRel G w x y) (h1 : G'.st = G.st) (h2 : G'.bl = G.bl) (h3 : G'.cur = G.cur) : VRel G' w x y := by
  induction h with
  | undef => exact .undef
  | v h => exact .v h
  | list h ht =>
    refine .list (by rw [h1]; exact h) ?_
    rename_i tag _ _ _
    cases tag with
    | none => trivial
    | full => exact ht
    | own d k => unfold TagOk at ht ⊢; simp only at ht ⊢; rw [h3]; exact ht
  | ptr h => exact .ptr (by rw [h2]; exact h)
  | lptr hne h => exact .lptr hne (by rw [h1]; exact h)
  | msl h hn => exact .msl (by rw [h2]; exact h) hn
  | fn hs _ ih => exact .fn hs ih
  | agg h1 hs _ ih => exact .agg h1 hs ih
  | tuple hs _ ih => exact .tuple hs ih

/-- The world gets the block too. -/
def Gh.fill (G : Gh) (N d k : Nat) : Gh := { G.wr N d k with no := fun d' k' => ¬ (d' = d ∧ k' = k) ∧ G.no d' k' }

theorem rel_fill (hR : Rel X G s w) {d k : Nat} (hno : G.no d k) {b : Blk} (hb : getBlk s d k = some b) {cs : Array Value} (hc : CRel G w b.cells cs) :
    Rel X (G.fill w.heap.size d k) s (w.alloc (.cells cs b.ty)) ∧ Ext G w (G.wr w.heap.size d k) (w.alloc (.cells cs b.ty)) := by
  have hN := hR.free w.heap.size (Nat.le_refl _)
  have hnone : G.bl d k = none := (hR.no d k hno).1
  have he : Ext G w (G.wr w.heap.size d k) (w.alloc (.cells cs b.ty)) := by
    refine ⟨rfl, rfl, rfl, by simp, fun g hg hf => ⟨heap_old w _ hg, ?_⟩, fun d' k' g h => ?_, fun g l own h => ?_, fun d k m l u h => ⟨m, l, u, h, Nat.le_refl _, fun _ => ⟨rfl, rfl⟩⟩, fun _ _ h => h⟩
    · simp only [Gh.wr]; rw [if_neg (by omega)]; exact hf
    · simp only [Gh.wr]; rw [if_neg (by rintro ⟨rfl, rfl⟩; rw [hnone] at h; cases h)]; exact h
    · have hlt : g < w.heap.size := hR.lt (by rw [h]; simp)
      exact ⟨l, own, by simp only [Gh.wr]; rw [if_neg (by omega)]; exact h, Nat.le_refl _, fun j _ => World.cell?_of_block (heap_old w _ hlt), fun ho => ⟨heap_old w _ hlt, ho⟩⟩
  have sm : ∀ {x : AV} {y : Value}, VRel G w x y → VRel (G.fill w.heap.size d k) (w.alloc (.cells cs b.ty)) x y := fun h => (h.ext he).same rfl rfl rfl
  refine ⟨⟨fun d' k' g => ?_, fun d' k' g h => ?_, hR.fit, fun d' k' m l u h => ?_, fun g => sm (hR.glob g), fun g hg => ?_, fun d' k' h => ?_⟩, he⟩
  · simp only [Gh.fill, Gh.wr]
    by_cases hg : g = w.heap.size
    · subst hg
      rw [if_pos rfl]
      constructor
      · intro h
        split at h
        · rename_i hc; rw [hc.1, hc.2]
        · have := (hR.st d' k' _).1 h; rw [hN] at this; cases this
      · intro h
        injection h with h1 h2
        rw [if_pos ⟨h1.symm, h2.symm⟩]
    · rw [if_neg hg]
      constructor
      · intro h
        split at h
        · injection h with h; exact absurd h.symm hg
        · exact (hR.st d' k' g).1 h
      · intro h
        have := (hR.st d' k' g).2 h
        rw [if_neg (by rintro ⟨rfl, rfl⟩; rw [hnone] at this; cases this)]
        exact this
  · simp only [Gh.fill, Gh.wr] at h
    split at h
    · rename_i hc'
      obtain ⟨rfl, rfl⟩ := hc'
      injection h with h
      subst h
      exact ⟨b, cs, hb, heap_new w _, hc.size, hc.one, fun j x hj => sm (hc.at_ j x hj)⟩
    · obtain ⟨b', cs', h1, h2, h3, h4, h5⟩ := hR.blk d' k' g h
      exact ⟨b', cs', h1, by rw [heap_old w _ (hR.wr_lt h)]; exact h2, h3, h4, fun j x hj => sm (h5 j x hj)⟩
  · obtain ⟨h1, h2⟩ := hR.tok d' k' m l u h
    refine ⟨h1, h2.frame fun g l o h => ?_⟩
    have hlt : g < w.heap.size := hR.lt (by rw [h]; simp)
    exact ⟨by simp only [Gh.fill, Gh.wr]; rw [if_neg (by omega)]; exact h, heap_old w _ hlt⟩
  · simp at hg
    simp only [Gh.fill, Gh.wr]; rw [if_neg (by omega)]; exact hR.free g (by omega)
  · obtain ⟨h1, h2⟩ := h
    obtain ⟨h3, h4⟩ := hR.no d' k' h2
    exact ⟨by simp only [Gh.fill, Gh.wr]; rw [if_neg h1]; exact h3, h4⟩

theorem zCells_any {t : TypeId} {z : List AV} (h : zCells X.P t = some z) : ∃ v, ∀ (G : Gh) (w : World), (zeroValue t).run X.P w = .ok v w ∧ CRel G w z v.cells := by
  unfold zCells at h
  split at h
  · rename_i v hv
    split at h
    · rename_i h1
      injection h with h
      subst h
      unfold zeroOf at hv
      cases hi : X.P.info? t with
      | none => simp [hi] at hv
      | some i =>
        simp [hi] at hv
        exact ⟨v, fun G w => ⟨by simp [zeroValue, run_typeInfo' hi, hv], fun x hx => List.all_eq_true.1 h1 x (Array.mem_toList_iff.2 hx), by simp, fun j x hj => by rw [getD_toList _ j hj]; exact ofCell_rel G w _⟩⟩
    · cases h
  · cases h

/-- A block that is to come. -/
structure Due (X : Cx) (G : Gh) (s : St) (w : World) (t : TypeId) (d k : Nat) : Prop where
  no : G.no d k
  blk : ∃ b v, getBlk s d k = some b ∧ b.ty = t ∧ CRel G w b.cells (Value.cells v) ∧ ∀ w, (zeroValue t).run X.P w = .ok v w

theorem alloc_resv {t : TypeId} {x : AV} (hR : Rel X G s w) (h : aAlloc X.P t s = some (x, s')) :
    ∃ G' d k, Rel X G' s' w ∧ Ext G w G' w ∧ x = .ptr d k 0 ∧ Due X G' s' w t d k ∧ getBlk s d k = none ∧ ∀ d' k' b, getBlk s d' k' = some b → getBlk s' d' k' = some b := by
  unfold aAlloc at h
  split at h
  · rename_i z hz
    obtain ⟨v, hv⟩ := zCells_any (X := X) hz
    unfold newBlk at h
    split at h
    · cases h
    · rename_i f r
      simp only [Option.some.injEq, Prod.mk.injEq] at h
      obtain ⟨rfl, rfl⟩ := h
      have hc := (hv G w).2
      obtain ⟨G1, hR1, he1, hl1, hx1⟩ := tokCells_rel (blks := f.blks) z f.toks G (Value.cells v).toList hR (fun j x hj => by
        simpa [Array.getD_eq_getD_getElem?, List.getD_eq_getElem?_getD] using hc.at_ j x hj)
      have hc1 : CRel G1 w (tokCells r.length z f.toks).1 (Value.cells v) := ⟨hc.one, by rw [hl1]; exact hc.size, fun j x hj => by
        simpa [Array.getD_eq_getD_getElem?, List.getD_eq_getElem?_getD] using hx1 j x hj⟩
      have hc2 := hc1.fit r.length f.blks.length (tokCells r.length z f.toks).2.length
      have he2 := ext_resv G1 w r.length f.blks.length
      refine ⟨G1.resv r.length f.blks.length, r.length, f.blks.length, rel_resv hR1 _ (fun x hx => ?_), he1.trans he2, rfl, ⟨.inl ⟨rfl, rfl⟩, _, v, by rw [getBlk_cons, if_pos rfl]; simp; rfl, rfl, ?_, fun w => (hv G w).1⟩, ?_, fun d' k' b h1 => ?_⟩
      · obtain ⟨y, _, rfl⟩ := List.mem_map.1 hx
        exact fit_fit _ _ _ y
      · exact hc2.ext he2
      · rw [getBlk_cons, if_pos rfl]; simp
      · rw [getBlk_cons] at h1 ⊢
        split
        · rename_i hd
          rw [if_pos hd] at h1
          rw [List.getElem?_append_left (List.getElem?_eq_some_iff.1 h1).1]
          exact h1
        · rename_i hd; rw [if_neg hd] at h1; exact h1
  · cases h

/-- The block comes. -/
theorem due_comes {t : TypeId} {d k : Nat} (hR : Rel X G s w) (h : Due X G s w t d k) :
    ∃ w', (Instr.alloc t true (.tuple #[])).run X.P w = .ok (.pointer (some ⟨w.heap.size, 0, none⟩)) w' ∧ Rel X (G.fill w.heap.size d k) s w' ∧ Ext G w (G.wr w.heap.size d k) w' := by
  obtain ⟨hno, b, v, hb, rfl, hc, hz⟩ := h
  obtain ⟨h1, h2⟩ := rel_fill hR hno hb hc
  exact ⟨_, by simp [Instr.alloc, hz, newVar, newRow], h1, h2⟩

theorem Due.ext {t : TypeId} {d k : Nat} (h : Due X G s w t d k) (he : Ext G w G' w') (hb : getBlk s' d k = getBlk s d k) : Due X G' s' w' t d k := by
  obtain ⟨hno, b, v, hb', h1, hc, hz⟩ := h
  exact ⟨he.no _ _ hno, b, v, by rw [hb]; exact hb', h1, hc.ext he, hz⟩
theorem Due.fill {t : TypeId} {d k d' k' N : Nat} (h : Due X G s w t d k) (he : Ext G w (G.wr N d' k') w') (hne : ¬ (d = d' ∧ k = k')) : Due X (G.fill N d' k') s w' t d k := by
  obtain ⟨hno, b, v, hb', h1, hc, hz⟩ := h
  exact ⟨⟨hne, hno⟩, b, v, hb', h1, ⟨hc.one, hc.size, fun j x hj => ((hc.at_ j x hj).ext he).same rfl rfl rfl⟩, hz⟩
theorem Ext.fill {G0 : Gh} {w0 : World} {N d k : Nat} (h : Ext G0 w0 G w) (he : Ext G w (G.wr N d k) w') (hne : ¬ G0.no d k) : Ext G0 w0 (G.fill N d k) w' := by
  have h2 := h.trans he
  exact { os := h2.os, tape := h2.tape, output := h2.output, size := h2.size, free := h2.free, bl := h2.bl, imm := h2.imm, cur := h2.cur, no := fun d' k' hn => ⟨by rintro ⟨rfl, rfl⟩; exact hne hn, h.no d' k' hn⟩ }
end
end Go.Proofs.YtnfdepafmmibaaaDoor

/-! A region whose order is open: what the machine did, as a row of steps. -/
set_option linter.unusedVariables false
set_option linter.unusedSimpArgs false
namespace Go.Proofs.YtnfdepafmmibaaaDoor
open Go

structure Step where
  i : Nat
  o : Oper
  e : Env
  s : St
  x : AV
  s' : St

def Did (X : Cx) (cf : CallF) (ops : List Oper) (o : Oper) (e : Env) (s : St) (x : AV) (s' : St) : Prop :=
  (∃ c want, gate ops e o = some (c, want) ∧ offG c want = true ∧ x = .tuple [] ∧ s' = s) ∨
  ((gate ops e o = none ∨ ∃ b, gate ops e o = some (.v (.bool b), b)) ∧ ((valOp X e s o.op = some (some x) ∧ s' = s) ∨ (valOp X e s o.op = none ∧ memOp X cf true e s o.op = some (x, s'))))

inductive Chain (X : Cx) (cf : CallF) (ops : List Oper) : Env → St → List Step → Env → St → Prop
  | nil {e : Env} {s : St} : Chain X cf ops e s [] e s
  | cons {p : Step} {T : List Step} {e' : Env} {s' : St} (ho : ops[p.i]? = some p.o) (hd : Did X cf ops p.o p.e p.s p.x p.s') (h : Chain X cf ops (p.e.put p.o.dst p.x) p.s' T e' s') : Chain X cf ops p.e p.s (p :: T) e' s'

def isRd (p : Step) : Prop := kindOf p.o.op = .read ∨ kindOf p.o.op = .alloc
def isWr (p : Step) : Prop := kindOf p.o.op = .write
def locOf (X : Cx) (p : Step) : Option (Nat × Nat) :=
  match kindOf p.o.op with
  | .read => opLoc X p.e p.o.op
  | .alloc => rloc p.x
  | _ => none

section
variable {X : Cx} {cf : CallF} {ops : List Oper} {ms : List Nat}

theorem needs_some {α : Type} {x : Option α} {out : α} : ∀ {l : List (Option (Nat × Nat) × St × St)}, needs l x = some out → (∀ p ∈ l, chk p.1 p.2.1 p.2.2) ∧ x = some out
  | [], h => ⟨fun p hp => by simp at hp, h⟩
  | q :: r, h => by
    unfold needs at h
    split at h
    · rename_i hc
      obtain ⟨h1, h2⟩ := needs_some h
      exact ⟨fun p hp => by
        rcases List.mem_cons.1 hp with rfl | hp
        · exact hc
        · exact h1 p hp, h2⟩
    · cases h

structure Checked (X : Cx) (ms : List Nat) (rs : List (Nat × Bool × Option (Nat × Nat))) (ws : List (Nat × St × St)) (T : List Step) : Prop where
  a : ∀ q ∈ T, isWr q → ∀ r ∈ rs, apart ms r.2.1 r.1 q.i = true → chk r.2.2 q.s q.s'
  b : ∀ p ∈ T, isRd p → ∀ v ∈ ws, apart ms (isAlloc p.o) p.i v.1 = true → chk (locOf X p) v.2.1 v.2.2
  c : ∀ p ∈ T, isRd p → ∀ q ∈ T, isWr q → apart ms (isAlloc p.o) p.i q.i = true → chk (locOf X p) q.s q.s'

theorem trace {α : Type} : ∀ (L : List Nat) (rs : List (Nat × Bool × Option (Nat × Nat))) (ws : List (Nat × St × St)) (e : Env) (s : St) (k : Env → St → Option α) (out : α),
    aOpsD X cf ops ms L rs ws e s k = some out → ∃ T e' s', k e' s' = some out ∧ T.map (·.i) = L ∧ Chain X cf ops e s T e' s' ∧ Checked X ms rs ws T
  | [], rs, ws, e, s, k, out, h => ⟨[], e, s, h, rfl, .nil, ⟨fun q hq => by simp at hq, fun q hq => by simp at hq, fun q hq => by simp at hq⟩⟩
  | i :: r, rs, ws, e, s, k, out, h => by
    unfold aOpsD at h
    split at h
    · cases h
    · rename_i o ho
      split at h
      · rename_i hk
        obtain ⟨h1, h2⟩ := needs_some h
        obtain ⟨x, s1, h3, h4⟩ := opK_inv h2
        obtain ⟨T, e', s', h5, h6, h7, h8⟩ := trace r _ _ _ _ _ _ h3
        refine ⟨⟨i, o, e, s, x, s1⟩ :: T, e', s', h5, by simp [h6], .cons (p := ⟨i, o, e, s, x, s1⟩) ho h4 h7, ?_⟩
        have hl : locOf X ⟨i, o, e, s, x, s1⟩ = opLoc X e o.op := by simp [locOf, hk]
        have ha : isAlloc o = false := by simp [isAlloc, hk]
        refine ⟨fun q hq hw v hv hap => ?_, fun p hp hr v hv hap => ?_, fun p hp hr q hq hw hap => ?_⟩
        · rcases List.mem_cons.1 hq with rfl | hq
          · unfold isWr at hw; rw [hk] at hw; cases hw
          · exact h8.a q hq hw v (by simp [hv]) hap
        · rcases List.mem_cons.1 hp with rfl | hp
          · rw [hl]
            simp only [ha] at hap
            exact h1 _ (List.mem_map.2 ⟨v, List.mem_filter.2 ⟨hv, hap⟩, rfl⟩)
          · exact h8.b p hp hr v hv hap
        · rcases List.mem_cons.1 hq with rfl | hq
          · unfold isWr at hw; rw [hk] at hw; cases hw
          · rcases List.mem_cons.1 hp with rfl | hp
            · rw [hl]
              simp only [ha] at hap
              exact h8.a q hq hw (i, false, opLoc X e o.op) (by simp) hap
            · exact h8.c p hp hr q hq hw hap
      · rename_i hk
        obtain ⟨x, s1, h3, h4⟩ := opK_inv h
        obtain ⟨h1, h2⟩ := needs_some h3
        obtain ⟨T, e', s', h5, h6, h7, h8⟩ := trace r _ _ _ _ _ _ h2
        refine ⟨⟨i, o, e, s, x, s1⟩ :: T, e', s', h5, by simp [h6], .cons (p := ⟨i, o, e, s, x, s1⟩) ho h4 h7, ?_⟩
        have hnr : ¬ isRd ⟨i, o, e, s, x, s1⟩ := by unfold isRd; rw [hk]; simp
        refine ⟨fun q hq hw v hv hap => ?_, fun p hp hr v hv hap => ?_, fun p hp hr q hq hw hap => ?_⟩
        · rcases List.mem_cons.1 hq with rfl | hq
          · exact h1 _ (List.mem_map.2 ⟨v, List.mem_filter.2 ⟨hv, hap⟩, rfl⟩)
          · exact h8.a q hq hw v hv hap
        · rcases List.mem_cons.1 hp with rfl | hp
          · exact absurd hr hnr
          · exact h8.b p hp hr v (by simp [hv]) hap
        · rcases List.mem_cons.1 hp with rfl | hp
          · exact absurd hr hnr
          · rcases List.mem_cons.1 hq with rfl | hq
            · exact h8.b p hp hr (i, s, s1) (by simp) hap
            · exact h8.c p hp hr q hq hw hap
      · rename_i hk
        obtain ⟨x, s1, h3, h4⟩ := opK_inv h
        obtain ⟨h1, h2⟩ := needs_some h3
        obtain ⟨T, e', s', h5, h6, h7, h8⟩ := trace r _ _ _ _ _ _ h2
        refine ⟨⟨i, o, e, s, x, s1⟩ :: T, e', s', h5, by simp [h6], .cons (p := ⟨i, o, e, s, x, s1⟩) ho h4 h7, ?_⟩
        have hl : locOf X ⟨i, o, e, s, x, s1⟩ = rloc x := by simp [locOf, hk]
        have ha : isAlloc o = true := by simp [isAlloc, hk]
        refine ⟨fun q hq hw v hv hap => ?_, fun p hp hr v hv hap => ?_, fun p hp hr q hq hw hap => ?_⟩
        · rcases List.mem_cons.1 hq with rfl | hq
          · unfold isWr at hw; rw [hk] at hw; cases hw
          · exact h8.a q hq hw v (by simp [hv]) hap
        · rcases List.mem_cons.1 hp with rfl | hp
          · rw [hl]
            simp only [ha] at hap
            exact h1 _ (List.mem_map.2 ⟨v, List.mem_filter.2 ⟨hv, hap⟩, rfl⟩)
          · exact h8.b p hp hr v hv hap
        · rcases List.mem_cons.1 hq with rfl | hq
          · unfold isWr at hw; rw [hk] at hw; cases hw
          · rcases List.mem_cons.1 hp with rfl | hp
            · rw [hl]
              simp only [ha] at hap
              exact h8.a q hq hw (i, true, rloc x) (by simp) hap
            · exact h8.c p hp hr q hq hw hap
      · rename_i hk1 hk2 hk3
        obtain ⟨x, s1, h3, h4⟩ := opK_inv h
        obtain ⟨T, e', s', h5, h6, h7, h8⟩ := trace r _ _ _ _ _ _ h3
        refine ⟨⟨i, o, e, s, x, s1⟩ :: T, e', s', h5, by simp [h6], .cons (p := ⟨i, o, e, s, x, s1⟩) ho h4 h7, ?_⟩
        have hnr : ¬ isRd ⟨i, o, e, s, x, s1⟩ := fun h => h.elim hk1 hk3
        have hnw : ¬ isWr ⟨i, o, e, s, x, s1⟩ := fun h => hk2 h
        refine ⟨fun q hq hw v hv hap => ?_, fun p hp hr v hv hap => ?_, fun p hp hr q hq hw hap => ?_⟩
        · rcases List.mem_cons.1 hq with rfl | hq
          · exact absurd hw hnw
          · exact h8.a q hq hw v hv hap
        · rcases List.mem_cons.1 hp with rfl | hp
          · exact absurd hr hnr
          · exact h8.b p hp hr v hv hap
        · rcases List.mem_cons.1 hp with rfl | hp
          · exact absurd hr hnr
          · rcases List.mem_cons.1 hq with rfl | hq
            · exact absurd hw hnw
            · exact h8.c p hp hr q hq hw hap

/-! ### Chains -/
theorem Chain.mem {e e' : Env} {s s' : St} {T : List Step} (h : Chain X cf ops e s T e' s') : ∀ p ∈ T, ops[p.i]? = some p.o ∧ Did X cf ops p.o p.e p.s p.x p.s' := by
  induction h with
  | nil => intro p hp; simp at hp
  | cons ho hd h ih =>
    intro q hq
    rcases List.mem_cons.1 hq with rfl | hq
    · exact ⟨ho, hd⟩
    · exact ih q hq
theorem Chain.split {e e' : Env} {s s' : St} : ∀ {T1 T2 : List Step}, Chain X cf ops e s (T1 ++ T2) e' s' → ∃ e1 s1, Chain X cf ops e s T1 e1 s1 ∧ Chain X cf ops e1 s1 T2 e' s' := by
  intro T1
  induction T1 generalizing e s with
  | nil => intro T2 h; exact ⟨e, s, .nil, h⟩
  | cons p T1 ih =>
    intro T2 h
    cases h with
    | cons ho hd h =>
      obtain ⟨e1, s1, h1, h2⟩ := ih h
      exact ⟨e1, s1, .cons ho hd h1, h2⟩
theorem Chain.cat {e e1 e' : Env} {s s1 s' : St} {T1 T2 : List Step} (h : Chain X cf ops e s T1 e1 s1) (h2 : Chain X cf ops e1 s1 T2 e' s') : Chain X cf ops e s (T1 ++ T2) e' s' := by
  induction h with
  | nil => exact h2
  | cons ho hd h ih => exact .cons ho hd (ih h2)
theorem Chain.head {e e' : Env} {s s' : St} {p : Step} {T : List Step} (h : Chain X cf ops e s (p :: T) e' s') : e = p.e ∧ s = p.s ∧ Chain X cf ops (p.e.put p.o.dst p.x) p.s' T e' s' := by
  cases h with
  | cons ho hd h => exact ⟨rfl, rfl, h⟩

theorem put_len (e : Env) (d : Option Tmp) (x : AV) : (e.put d x).tmps.length = e.tmps.length := by cases d <;> simp [Env.put]
theorem Chain.env {e e' : Env} {s s' : St} {T : List Step} (h : Chain X cf ops e s T e' s') : e'.tmps.length = e.tmps.length ∧ e'.ds = e.ds := by
  induction h with
  | nil => exact ⟨rfl, rfl⟩
  | cons ho hd h ih => exact ⟨ih.1.trans (put_len _ _ _), ih.2.trans (put_ds _ _ _)⟩

/-- Two steps write different slots. -/
def DiffDst (p q : Step) : Prop := ∀ t, p.o.dst = some t → q.o.dst ≠ some t
def writes (t : Tmp) (p : Step) : Bool := p.o.dst == some t
theorem Chain.slot {e e' : Env} {s s' : St} {T : List Step} (h : Chain X cf ops e s T e' s') (hd : T.Pairwise DiffDst) {t : Nat} (ht : t < e.tmps.length) :
    e'.tmps.getD t .undef = match T.find? (writes t) with | some q => q.x | none => e.tmps.getD t .undef := by
  induction h with
  | nil => rfl
  | @cons p T e' s' ho hdid h ih =>
    obtain ⟨h1, h2⟩ := List.pairwise_cons.1 hd
    rw [ih h2 (by rw [put_len]; exact ht), List.find?_cons]
    by_cases hw : writes t p = true
    · rw [hw]
      have hdst : p.o.dst = some t := by simpa [writes] using hw
      have hno : T.find? (writes t) = none := by
        rw [List.find?_eq_none]
        intro q hq hwq
        exact h1 q hq t hdst (by simpa [writes] using hwq)
      rw [hno]
      simp only [hdst, Env.put]
      rw [List.getD_eq_getElem?_getD, List.getElem?_set_self ht]
      rfl
    · have hw' : writes t p = false := by simpa using hw
      rw [hw']
      simp only
      cases T.find? (writes t) with
      | some q => rfl
      | none =>
        simp only
        cases hdst : p.o.dst with
        | none => rfl
        | some d =>
          have hne : d ≠ t := fun e => by subst e; simp [writes, hdst] at hw'
          simp only [Env.put]
          rw [List.getD_eq_getElem?_getD, List.getD_eq_getElem?_getD, List.getElem?_set_ne hne]

end
end Go.Proofs.YtnfdepafmmibaaaDoor

/-! What an operation depends on. -/
set_option linter.unusedVariables false
set_option linter.unusedSimpArgs false
namespace Go.Proofs.YtnfdepafmmibaaaDoor
open Go

section
variable {X : Cx} {cf : CallF} {ops : List Oper} {ms : List Nat}

/-! ### What an operation depends on -/
theorem eva_congr {e e2 : Env} {x : Operand} (h : ∀ t, x = .tmp t → e.tmps.getD t .undef = e2.tmps.getD t .undef) : eva X e x = eva X e2 x := by
  cases x with
  | tmp t => exact h t rfl
  | _ => rfl
theorem valOp_congr {e e2 : Env} {s : St} {op : Op} (h : ∀ x ∈ op.operands, eva X e x = eva X e2 x) : valOp X e s op = valOp X e2 s op := by
  have pairs : ∀ ps : Array (Nat × Operand), (∀ x ∈ ps.map (·.2), eva X e x = eva X e2 x) → (ps.toList.map fun p => (p.1, eva X e p.2)) = (ps.toList.map fun p => (p.1, eva X e2 p.2)) := fun ps hp =>
    List.map_congr_left fun p hm => by rw [hp p.2 (Array.mem_map.2 ⟨p, by simpa using hm, rfl⟩)]
  have row : ∀ xs : Array Operand, (∀ x ∈ xs, eva X e x = eva X e2 x) → evs X e xs = evs X e2 xs := fun xs hx => List.map_congr_left fun x hm => hx x (by simpa using hm)
  cases op <;> simp only [Op.operands] at h <;> try (simp only [valOp]; done)
  case build t ps => simp only [valOp]; rw [pairs ps fun x hx => h x (by simpa using hx)]
  case buildSlice t n ps => simp only [valOp]; rw [pairs ps fun x hx => h x (by simpa using hx)]
  case makeFunc fn first captured => simp only [valOp]; rw [row first fun x hx => h x (by simp [hx]), row captured fun x hx => h x (by simp [hx])]
  case slice t x lo hi mx => cases lo <;> cases hi <;> cases mx <;> simp_all [valOp]
  case call c =>
    obtain ⟨cl, args, argTypes⟩ := c
    have hargs : ∀ x ∈ args, eva X e x = eva X e2 x := fun x hx => h x (by simp [Call.operands, hx])
    cases cl with
    | builtin b =>
      cases b
      case len =>
        simp only [valOp]
        cases ha : args[0]? with
        | none => cases argTypes[0]? <;> rfl
        | some x =>
          have := hargs x (Array.mem_of_getElem? ha)
          cases argTypes[0]? <;> simp only [this]
      case min => simp only [valOp]; rw [row args hargs]
      case max => simp only [valOp]; rw [row args hargs]
      all_goals rfl
    | _ => rfl
  all_goals (simp_all [valOp]; done)
theorem callee_congr {e e2 : Env} {c : Call} (h : ∀ x ∈ c.operands, eva X e x = eva X e2 x) : callee X e c = callee X e2 c := by
  have row : evs X e c.args = evs X e2 c.args := List.map_congr_left fun x hm => h x (by simp [Call.operands]; right; simpa using hm)
  unfold callee
  cases hc : c.callee with
  | value f => simp only [hc]; rw [h f (by simp [Call.operands, hc]), row]
  | _ => rfl
theorem memOp_congr {e e2 : Env} {s : St} {b : Bool} {op : Op} (h : ∀ x ∈ op.operands, eva X e x = eva X e2 x) : memOp X cf b e s op = memOp X cf b e2 s op := by
  cases op <;> simp only [Op.operands] at h <;> try (simp only [memOp]; done)
  case assign x =>
    have hx := h x (by simp)
    simp only [memOp, hx]
  case call c =>
    have hc := callee_congr (X := X) h
    obtain ⟨cl, args, argTypes⟩ := c
    have hargs : ∀ x ∈ args, eva X e x = eva X e2 x := fun x hx => h x (by simp [Call.operands, hx])
    cases cl with
    | builtin b =>
      cases b
      case append =>
        simp only [memOp]
        cases ha : args[0]? with
        | none => cases argTypes[0]? <;> rfl
        | some x =>
          have h1 := hargs x (Array.mem_of_getElem? ha)
          cases ha1 : args[1]? with
          | none => cases argTypes[0]? <;> rfl
          | some y =>
            have h2 := hargs y (Array.mem_of_getElem? ha1)
            cases argTypes[0]? with
            | none => rfl
            | some t =>
              cases argTypes[1]? with
              | none => rfl
              | some u => simp only [h1, h2]
      case copy =>
        simp only [memOp]
        cases ha : args[0]? with
        | none => cases argTypes[0]? <;> rfl
        | some x =>
          have h1 := hargs x (Array.mem_of_getElem? ha)
          cases ha1 : args[1]? with
          | none => cases argTypes[0]? <;> rfl
          | some y =>
            have h2 := hargs y (Array.mem_of_getElem? ha1)
            cases argTypes[0]? with
            | none => rfl
            | some t => simp only [h1, h2]
      all_goals rfl
    | _ => simp only [memOp]; rw [hc]
  all_goals (simp_all [memOp]; done)

theorem looks_eva {e e2 : Env} {o : Oper} (h : ∀ t ∈ looks ops o, e.tmps.getD t .undef = e2.tmps.getD t .undef) : ∀ x ∈ o.op.operands, eva X e x = eva X e2 x := fun x hx =>
  eva_congr fun t ht => h t (List.mem_append_left _ (List.mem_filterMap.2 ⟨.tmp t, by subst ht; simpa using hx, rfl⟩))
theorem gate_congr {e e2 : Env} {o : Oper} (h : ∀ t ∈ looks ops o, e.tmps.getD t .undef = e2.tmps.getD t .undef) : gate ops e o = gate ops e2 o := by
  unfold gate
  cases hg : o.guard with
  | none => rfl
  | some p =>
    simp only
    cases hd : (ops[p.1]?).bind (·.dst) with
    | none => rfl
    | some t => simp only; rw [h t (List.mem_append_right _ (by simp [hg, hd]))]
theorem Did.congr {e e2 : Env} {o : Oper} {s s' : St} {x : AV} (h : ∀ t ∈ looks ops o, e.tmps.getD t .undef = e2.tmps.getD t .undef) (hd : Did X cf ops o e s x s') : Did X cf ops o e2 s x s' := by
  have ho := looks_eva (X := X) h
  unfold Did at *
  rw [← gate_congr h, ← valOp_congr ho, ← memOp_congr ho]
  exact hd

end
end Go.Proofs.YtnfdepafmmibaaaDoor

/-! What an operation asks of memory. -/
set_option linter.unusedVariables false
set_option linter.unusedSimpArgs false
namespace Go.Proofs.YtnfdepafmmibaaaDoor
open Go

section
variable {X : Cx} {cf : CallF} {ops : List Oper} {ms : List Nat}

theorem chk_rloc {x : AV} {s s2 : St} (h : chk (rloc x) s s2) : (∀ d k o, x = .ptr d k o → getBlk s d k = getBlk s2 d k) ∧ (∀ d k o n c, x = .msl d k o n c → getBlk s d k = getBlk s2 d k) :=
  ⟨fun d k o hx => by subst hx; exact h, fun d k o n c hx => by subst hx; exact h⟩
theorem aLoad_state {t : TypeId} {x : AV} {s s2 : St} (h : chk (rloc x) s s2) : aLoad X.P t x s = aLoad X.P t x s2 := by
  unfold aLoad
  cases x with
  | ptr d k o =>
    have := (chk_rloc h).1 d k o rfl
    cases tyOf X.P t with
    | none => rfl
    | some p => simp only; rw [this]
  | _ => cases tyOf X.P t <;> rfl
theorem aConvS_state {t u : TypeId} {x : AV} {s s2 : St} (h : chk (rloc x) s s2) : aConvS X.P t u x s = aConvS X.P t u x s2 := by
  unfold aConvS
  cases x with
  | msl d k o n c =>
    have := (chk_rloc h).2 d k o n c rfl
    simp only; rw [this]
  | _ => rfl
theorem valOp_call {e : Env} {s s2 : St} {c : Call} : valOp X e s (.call c) = valOp X e s2 (.call c) := by
  obtain ⟨cl, args, argTypes⟩ := c
  cases cl with
  | builtin b => cases b <;> rfl
  | _ => rfl
theorem valOp_state {e : Env} {s s2 : St} {op : Op} (h : chk (opLoc X e op) s s2) : valOp X e s op = valOp X e s2 op := by
  cases op <;> try rfl
  case call c => exact valOp_call
  case load t x => simp only [valOp]; rw [aLoad_state h]
  case convert t u x => simp only [valOp]; rw [aConvS_state h]
theorem valOp_pure {e : Env} {s s2 : St} {op : Op} (h : kindOf op = .pure) : valOp X e s op = valOp X e s2 op := by
  cases op <;> first | rfl | exact valOp_call | (simp [kindOf] at h; done)

theorem quiet {o : Oper} {e : Env} {s s' : St} {x : AV} (hk : kindOf o.op = .pure ∨ kindOf o.op = .read) (h : Did X cf ops o e s x s') : s' = s := by
  rcases h with ⟨_, _, _, _, _, rfl⟩ | ⟨_, ⟨_, rfl⟩ | ⟨hv, hm⟩⟩
  · rfl
  · rfl
  · generalize o.op = op at *
    cases op <;> try (simp [valOp] at hv; done)
    all_goals try (rcases hk with hk | hk <;> simp [kindOf] at hk; done)
    case assign => simp [memOp] at hm; exact hm.2.symm
    case call c =>
      obtain ⟨cl, args, argTypes⟩ := c
      cases cl with
      | builtin b => cases b <;> first | (simp [valOp] at hv; done) | (rcases hk with hk | hk <;> simp [kindOf] at hk; done)
      | _ => rcases hk with hk | hk <;> simp [kindOf] at hk
end
end Go.Proofs.YtnfdepafmmibaaaDoor

/-! The order that a region keeps. -/
set_option linter.unusedVariables false
set_option linter.unusedSimpArgs false
namespace Go.Proofs.YtnfdepafmmibaaaDoor
open Go

section
variable {ops : List Oper}

structure DrawSpec (ops : List Oper) (i : Nat) (o : Oper) : Prop where
  kind : kindOf o.op ≠ .other
  edges : ∀ j ∈ opEdges o, j < i
  self : ∀ t, o.dst = some t → t ∉ looks ops o
  bare : isAlloc o = true → o.guard = none
  pair : ∀ (j : Nat) (o' : Oper), ops[j]? = some o' → i < j → pairOk ops (masks ops []) i j o o' = true

theorem drawOk_spec (h : drawOk ops = true) {i : Nat} {o : Oper} (ho : ops[i]? = some o) : DrawSpec ops i o := by
  unfold drawOk at h
  simp only [List.all_eq_true] at h
  have h1 := h (o, i) (List.mem_zipIdx_iff_getElem?.2 ho)
  simp only [Bool.and_eq_true, List.all_eq_true, decide_eq_true_eq, Bool.or_eq_true, Bool.not_eq_true'] at h1
  obtain ⟨⟨⟨⟨⟨a, b⟩, c⟩, d⟩, e⟩, f⟩ := h1
  refine ⟨by simpa using a, b, fun t ht => ?_, fun ha => ?_, fun j o' hj hij => ?_⟩
  · rw [ht] at c
    simpa using c
  · rcases d with d | d
    · rw [ha] at d; cases d
    · simpa using d
  · rcases f (o', j) (List.mem_zipIdx_iff_getElem?.2 hj) with f | f
    · simp at f; omega
    · exact f

/-! ### Closed sets -/
def Closed (ops : List Oper) (S : Nat → Prop) : Prop := ∀ (j : Nat) (o : Oper), ops[j]? = some o → S j → ∀ i ∈ opEdges o, S i

theorem fold_bits (acc : List Nat) (i : Nat) : ∀ (l : List Nat) (m : Nat), (l.foldl (fun m j => m ||| 2 ^ j ||| acc.getD j 0) m).testBit i = true → m.testBit i = true ∨ ∃ j ∈ l, j = i ∨ (acc.getD j 0).testBit i = true
  | [], m, h => .inl h
  | j :: l, m, h => by
    rcases fold_bits acc i l _ h with h | ⟨j', hj, h⟩
    · simp only [Nat.testBit_or, Bool.or_eq_true, Nat.testBit_two_pow] at h
      rcases h with (h | h) | h
      · exact .inl h
      · exact .inr ⟨j, by simp, .inl (by simpa using h)⟩
      · exact .inr ⟨j, by simp, .inr h⟩
    · exact .inr ⟨j', by simp [hj], h⟩

theorem masks_ok {S : Nat → Prop} (hS : Closed ops S) : ∀ (r pre : List Oper) (acc : List Nat), pre ++ r = ops → acc.length = pre.length → (∀ j i, (acc.getD j 0).testBit i = true → S j → S i) →
    ∀ j i, ((masks r acc).getD j 0).testBit i = true → S j → S i
  | [], pre, acc, hp, hl, ha => ha
  | o :: r, pre, acc, hp, hl, ha => by
    unfold masks
    refine masks_ok hS r (pre ++ [o]) _ (by simpa using hp) (by simp [hl]) fun j i hb hj => ?_
    rw [List.getD_eq_getElem?_getD, List.getElem?_append] at hb
    split at hb
    · exact ha j i (by rw [List.getD_eq_getElem?_getD]; exact hb) hj
    · rename_i hlt
      by_cases hj0 : j = acc.length
      · subst hj0
        simp only [Nat.sub_self, List.getElem?_cons_zero, Option.getD_some] at hb
        have ho : ops[acc.length]? = some o := by rw [← hp, hl]; simp
        rcases fold_bits acc i _ _ hb with h | ⟨j', hj', h⟩
        · simp at h
        · have := hS _ o ho hj j' hj'
          rcases h with rfl | h
          · exact this
          · exact ha j' i h this
      · have : j - acc.length ≠ 0 := by omega
        rw [List.getElem?_eq_none (by simp; omega)] at hb
        simp at hb

theorem ordered_closed {S : Nat → Prop} (hS : Closed ops S) {i j : Nat} (hij : i < j) (h : ordered (masks ops []) i j = true) (hj : S j) : S i := by
  unfold ordered at h
  rw [if_pos hij] at h
  exact masks_ok hS ops [] [] rfl rfl (fun j i hb => by simp at hb) j i h hj
theorem ordered_symm {ms : List Nat} {i j : Nat} (h : i ≠ j) : ordered ms i j = ordered ms j i := by
  unfold ordered
  by_cases h1 : i < j
  · rw [if_pos h1, if_neg (by omega)]
  · rw [if_neg h1, if_pos (by omega)]

/-! ### The order that the machine takes -/
def allocAt (ops : List Oper) (i : Nat) : Bool := (ops[i]?).any isAlloc
/-- Step i comes before step j. -/
def Before (ops : List Oper) (i j : Nat) : Prop := (allocAt ops i = true ∧ allocAt ops j = false) ∨ (allocAt ops i = allocAt ops j ∧ i < j)

theorem orderD_pairwise (ops : List Oper) : (orderD ops).Pairwise (Before ops) := by
  unfold orderD
  have hr : (List.range ops.length).Pairwise (· < ·) := List.pairwise_lt_range
  rw [List.pairwise_append]
  refine ⟨?_, ?_, ?_⟩
  · rw [List.pairwise_filter]
    exact hr.imp fun {a b} h ha hb => .inr ⟨by unfold allocAt; rw [ha, hb], h⟩
  · rw [List.pairwise_filter]
    refine hr.imp fun {a b} h ha hb => .inr ⟨?_, h⟩
    unfold allocAt
    simp only [Bool.not_eq_true'] at ha hb
    rw [ha, hb]
  · intro a ha b hb
    obtain ⟨_, ha⟩ := List.mem_filter.1 ha
    obtain ⟨_, hb⟩ := List.mem_filter.1 hb
    exact .inl ⟨ha, by simpa [allocAt] using hb⟩
theorem orderD_mem (ops : List Oper) (i : Nat) : i ∈ orderD ops ↔ i < ops.length := by
  unfold orderD
  simp only [List.mem_append, List.mem_filter, List.mem_range]
  cases h : (ops[i]?).any isAlloc <;> simp
theorem before_irrefl {i : Nat} : ¬ Before ops i i := by
  rintro (⟨h1, h2⟩ | ⟨_, h⟩)
  · rw [h1] at h2; cases h2
  · omega

/-! ### What may come next -/
theorem opEdges_mem {o : Oper} {j : Nat} : j ∈ opEdges o ↔ ∃ e ∈ o.after, Region.binds .any e = true ∧ e.on = j := by
  unfold opEdges
  simp only [List.mem_map, List.mem_filter, Array.mem_toList_iff]
  constructor
  · rintro ⟨e, ⟨h1, h2⟩, h3⟩; exact ⟨e, h1, h2, h3⟩
  · rintro ⟨e, h1, h2, h3⟩; exact ⟨e, ⟨h1, h2⟩, h3⟩

def Has (listed : Array Bool) (i : Nat) : Prop := listed.getD i false = true
theorem ready_has {ops : Array Oper} {listed : Array Bool} {i : Nat} : i ∈ Region.ready .any ops listed ↔ listed.getD i true = false ∧ ∃ o, ops.toList[i]? = some o ∧ ∀ j ∈ opEdges o, Has listed j := by
  rw [mem_ready]
  constructor
  · rintro ⟨h1, o, ho, h⟩
    exact ⟨h1, o, by simpa using ho, fun j hj => by
      obtain ⟨e, he, hb, rfl⟩ := opEdges_mem.1 hj
      exact h e he hb⟩
  · rintro ⟨h1, o, ho, h⟩
    exact ⟨h1, o, by simpa using ho, fun e he hb => h e.on (opEdges_mem.2 ⟨e, he, hb, rfl⟩)⟩

/-- How many are to come. -/
def left (n : Nat) (listed : Array Bool) : Nat := ((List.range n).filter fun i => !listed.getD i false).length

theorem has_set {listed : Array Bool} {i j : Nat} (hi : i < listed.size) : Has (listed.setIfInBounds i true) j ↔ j = i ∨ Has listed j := by
  unfold Has
  by_cases h : i = j
  · subst h; simp [hi]
  · rw [getD_set_ne false h]
    simp [Ne.symm h]

theorem left_set {listed : Array Bool} {i n : Nat} (hi : i < listed.size) (hn : i < n) (h : ¬ Has listed i) : left n (listed.setIfInBounds i true) < left n listed := by
  unfold left
  have he : ((List.range n).filter fun j => !(listed.setIfInBounds i true).getD j false) = ((List.range n).filter fun j => !listed.getD j false).filter fun j => j != i := by
    rw [List.filter_filter]
    refine List.filter_congr fun j _ => ?_
    by_cases hj : i = j
    · subst hj; simp [hi]
    · rw [getD_set_ne false hj]; simp [Ne.symm hj]
  rw [he]
  refine List.length_filter_lt_length_iff_exists.2 ⟨i, List.mem_filter.2 ⟨List.mem_range.2 hn, ?_⟩, by simp⟩
  unfold Has at h
  simpa using h
theorem left_zero {listed : Array Bool} {n : Nat} (h : left n listed = 0) : ∀ i, i < n → Has listed i := by
  intro i hi
  unfold left at h
  have := List.eq_nil_of_length_eq_zero h
  rw [List.filter_eq_nil_iff] at this
  simpa [Has] using this i (List.mem_range.2 hi)

/-- When nothing may come, all is done. -/
theorem ready_nil {ops : Array Oper} {listed : Array Bool} (hsz : listed.size = ops.size) (hd : drawOk ops.toList = true) (h : Region.ready .any ops listed = []) : ∀ i, i < ops.size → Has listed i := by
  intro i
  induction i using Nat.strongRecOn with
  | ind i ih =>
    intro hi
    have ho : ops.toList[i]? = some ops[i] := by simp [hi]
    have hs := drawOk_spec hd ho
    cases hh : listed.getD i false with
    | true => exact hh
    | false =>
      have : i ∈ Region.ready .any ops listed := ready_has.2 ⟨by simp [hsz, hi] at hh ⊢; exact hh, ops[i], ho, fun j hj => ih j (hs.edges j hj) (by have := hs.edges j hj; omega)⟩
      rw [h] at this
      cases this
end
end Go.Proofs.YtnfdepafmmibaaaDoor

/-! A region whose order is open gives, in each order that may be, what the machine says. -/
set_option linter.unusedVariables false
set_option linter.unusedSimpArgs false
namespace Go.Proofs.YtnfdepafmmibaaaDoor
open Go

section
variable {X : Cx} {cf : CallF} {ops : List Oper} {e0 e' : Env} {s0 s' : St} {T : List Step} {G G' : Gh} {w w' : World}

structure Run (X : Cx) (cf : CallF) (ops : List Oper) (e0 : Env) (s0 : St) (T : List Step) (e' : Env) (s' : St) : Prop where
  ok : drawOk ops = true
  chain : Chain X cf ops e0 s0 T e' s'
  idx : T.map (·.i) = orderD ops
  chkd : Checked X (masks ops []) [] [] T

theorem Run.op (h : Run X cf ops e0 s0 T e' s') {p : Step} (hp : p ∈ T) : ops[p.i]? = some p.o := (h.chain.mem p hp).1
theorem Run.spec (h : Run X cf ops e0 s0 T e' s') {p : Step} (hp : p ∈ T) : DrawSpec ops p.i p.o := drawOk_spec h.ok (h.op hp)
theorem Run.alloc (h : Run X cf ops e0 s0 T e' s') {p : Step} (hp : p ∈ T) : allocAt ops p.i = isAlloc p.o := by simp [allocAt, h.op hp]
theorem Run.pw (h : Run X cf ops e0 s0 T e' s') : T.Pairwise fun p q => Before ops p.i q.i := by
  have := orderD_pairwise ops
  rw [← h.idx, List.pairwise_map] at this
  exact this
theorem Run.around (h : Run X cf ops e0 s0 T e' s') {A B : List Step} {p : Step} (hT : T = A ++ p :: B) : (∀ q ∈ A, Before ops q.i p.i) ∧ ∀ q ∈ B, Before ops p.i q.i := by
  have := h.pw
  rw [hT, List.pairwise_append, List.pairwise_cons] at this
  exact ⟨fun q hq => this.2.2 q hq p (by simp), this.2.1.1⟩
theorem before_asymm {i j : Nat} (h : Before ops i j) : ¬ Before ops j i := by
  rintro (⟨h1, h2⟩ | ⟨h1, h2⟩) <;> rcases h with ⟨h3, h4⟩ | ⟨h3, h4⟩
  · rw [h3] at h2; cases h2
  · rw [← h3, h2] at h1; cases h1
  · rw [h3, h4] at h1; cases h1
  · omega
theorem Run.ex (h : Run X cf ops e0 s0 T e' s') {i : Nat} (hi : i < ops.length) : ∃ p ∈ T, p.i = i := by
  have := (orderD_mem ops i).2 hi
  rw [← h.idx] at this
  obtain ⟨p, hp, he⟩ := List.mem_map.1 this
  exact ⟨p, hp, he⟩
theorem pw_pick {α : Type} {R : α → α → Prop} : ∀ {l : List α}, l.Pairwise R → ∀ {p q : α}, p ∈ l → q ∈ l → p = q ∨ R p q ∨ R q p
  | [], _, p, q, hp, _ => by cases hp
  | a :: l, h, p, q, hp, hq => by
    obtain ⟨h1, h2⟩ := List.pairwise_cons.1 h
    rcases List.mem_cons.1 hp with e1 | hp' <;> rcases List.mem_cons.1 hq with e2 | hq'
    · exact .inl (e1.trans e2.symm)
    · exact .inr (.inl (e1 ▸ h1 q hq'))
    · exact .inr (.inr (e2 ▸ h1 p hp'))
    · exact pw_pick h2 hp' hq'
theorem Run.inj (h : Run X cf ops e0 s0 T e' s') {p q : Step} (hp : p ∈ T) (hq : q ∈ T) (he : p.i = q.i) : p = q := by
  rcases pw_pick h.pw hp hq with h | h | h
  · exact h
  · rw [he] at h; exact absurd h before_irrefl
  · rw [he] at h; exact absurd h before_irrefl

theorem Run.pairs (h : Run X cf ops e0 s0 T e' s') {p q : Step} (hp : p ∈ T) (hq : q ∈ T) (hlt : p.i < q.i) :
    (∀ t, p.o.dst = some t → q.o.dst ≠ some t ∧ (t ∈ looks ops q.o → ordered (masks ops []) p.i q.i = true)) ∧
    (∀ t, q.o.dst = some t → t ∈ looks ops p.o → ordered (masks ops []) p.i q.i = true ∧ isAlloc q.o = false) ∧
    (isWr p → isWr q → ordered (masks ops []) p.i q.i = true) := by
  have hpo := (h.spec hp).pair q.i q.o (h.op hq) hlt
  unfold pairOk at hpo
  simp only [Bool.and_eq_true] at hpo
  obtain ⟨⟨h1, h2⟩, h3⟩ := hpo
  refine ⟨fun t ht => ?_, fun t ht hl => ?_, fun hwp hwq => ?_⟩
  · rw [ht] at h1
    simp only [Bool.and_eq_true, Bool.or_eq_true, bne_iff_ne, ne_eq, Bool.not_eq_true', List.contains_eq_mem, decide_eq_false_iff_not] at h1
    exact ⟨h1.1, fun hl => h1.2.resolve_left fun hn => hn hl⟩
  · rw [ht] at h2
    simp only [Bool.and_eq_true, Bool.or_eq_true, Bool.not_eq_true', List.contains_eq_mem, decide_eq_false_iff_not] at h2
    exact h2.resolve_left fun hn => hn hl
  · simp only [Bool.or_eq_true, Bool.not_eq_true', Bool.and_eq_false_iff] at h3
    rcases h3 with h3 | h3
    · unfold isWr at hwp hwq
      unfold heavy at h3
      rw [hwp, hwq] at h3
      simp at h3
    · exact h3
theorem Run.diff (h : Run X cf ops e0 s0 T e' s') : T.Pairwise DiffDst := by
  refine List.Pairwise.imp_of_mem (fun {p q} hp hq hb => ?_) h.pw
  intro t ht hq'
  have hne : p.i ≠ q.i := fun e => by rw [e] at hb; exact before_irrefl hb
  rcases Nat.lt_or_gt_of_ne hne with hlt | hlt
  · exact ((h.pairs hp hq hlt).1 t ht).1 hq'
  · exact ((h.pairs hq hp hlt).1 t hq').1 ht

/-! ### What has been done so far -/
variable {listed : Array Bool}
/-- The next operation. -/
structure Next (ops : List Oper) (listed : Array Bool) (p : Step) : Prop where
  closed : Closed ops (Has listed)
  not : ¬ Has listed p.i
  ready : ∀ j ∈ opEdges p.o, Has listed j

theorem Run.before (h : Run X cf ops e0 s0 T e' s') {p q : Step} (hp : p ∈ T) (hq : q ∈ T) (hn : Next ops listed p) (hlt : q.i < p.i) (ho : ordered (masks ops []) q.i p.i = true) : Has listed q.i := by
  have hc : Closed ops fun i => i = p.i ∨ Has listed i := fun j o hj hs i hi => by
    rcases hs with rfl | hs
    · have := h.op hp
      rw [hj] at this
      injection this with this
      subst this
      exact .inr (hn.ready i hi)
    · exact .inr (hn.closed j o hj hs i hi)
  rcases ordered_closed hc hlt ho (.inl rfl) with he | he
  · omega
  · exact he
theorem Run.after (h : Run X cf ops e0 s0 T e' s') {p q : Step} (hn : Next ops listed p) (hlt : p.i < q.i) (ho : ordered (masks ops []) p.i q.i = true) : ¬ Has listed q.i := fun hq => hn.not (ordered_closed hn.closed hlt ho hq)

theorem Run.noLooks (h : Run X cf ops e0 s0 T e' s') {p : Step} (hp : p ∈ T) (ha : isAlloc p.o = true) : looks ops p.o = [] := by
  have hg := (h.spec hp).bare ha
  unfold looks
  rw [hg]
  unfold isAlloc at ha
  generalize p.o.op = op at *
  cases op <;> first | rfl | (simp [kindOf] at ha; done) | skip
  case call c =>
    obtain ⟨cl, args, argTypes⟩ := c
    cases cl with
    | builtin b => cases b <;> simp [kindOf] at ha
    | _ => simp [kindOf] at ha

theorem Run.agree (h : Run X cf ops e0 s0 T e' s') {A B : List Step} {p q : Step} (hT : T = A ++ p :: B) (hn : Next ops listed p) (hq : q ∈ T) {t : Tmp} (ht : t ∈ looks ops p.o) (hd : q.o.dst = some t) : q ∈ A ↔ Has listed q.i := by
  have hp : p ∈ T := by rw [hT]; simp
  obtain ⟨hA, hB⟩ := h.around hT
  have hpa : isAlloc p.o = false := by
    cases ha : isAlloc p.o with
    | false => rfl
    | true => rw [h.noLooks hp ha] at ht; cases ht
  have hne : q ≠ p := fun e => by subst e; exact (h.spec hq).self t hd ht
  have hni : q.i ≠ p.i := fun e => hne (h.inj hq hp e)
  rcases Nat.lt_or_gt_of_ne hni with hlt | hlt
  · have ho := ((h.pairs hq hp hlt).1 t hd).2 ht
    have hb : Before ops q.i p.i := by
      unfold Before
      rw [h.alloc hq, h.alloc hp, hpa]
      cases isAlloc q.o
      · exact .inr ⟨rfl, hlt⟩
      · exact .inl ⟨rfl, rfl⟩
    have hin : q ∈ A := by
      rw [hT] at hq
      rcases List.mem_append.1 hq with hq | hq
      · exact hq
      · rcases List.mem_cons.1 hq with rfl | hq
        · exact absurd rfl hne
        · exact absurd (hB q hq) (before_asymm hb)
    exact ⟨fun _ => h.before hp hq hn hlt ho, fun _ => hin⟩
  · obtain ⟨ho, hqa⟩ := (h.pairs hp hq hlt).2.1 t hd ht
    have hnot := h.after (T := T) hn hlt ho
    refine ⟨fun hin => ?_, fun hh => absurd hh hnot⟩
    have := hA q hin
    unfold Before at this
    rw [h.alloc hq, h.alloc hp, hpa, hqa] at this
    rcases this with ⟨h1, _⟩ | ⟨_, h1⟩
    · cases h1
    · omega

/-- What a slot holds. -/
def sl (T : List Step) (listed : Array Bool) (e0 : Env) (t : Nat) : AV :=
  match T.find? (writes t) with
  | some q => if listed.getD q.i false = true then q.x else e0.tmps.getD t .undef
  | none => e0.tmps.getD t .undef
def slE (T : List Step) (listed : Array Bool) (e0 : Env) : Env := { tmps := (List.range e0.tmps.length).map (sl T listed e0), ds := e0.ds }
theorem slE_slot {t : Nat} (ht : t < e0.tmps.length) : (slE T listed e0).tmps.getD t .undef = sl T listed e0 t := by
  simp [slE, List.getD_eq_getElem?_getD, ht]
theorem slE_out {t : Nat} (ht : e0.tmps.length ≤ t) : (slE T listed e0).tmps.getD t .undef = .undef := by
  rw [List.getD_eq_getElem?_getD, List.getElem?_eq_none (by simpa [slE] using ht)]; rfl

theorem Run.slot (h : Run X cf ops e0 s0 T e' s') {A B : List Step} {p : Step} (hT : T = A ++ p :: B) (hn : Next ops listed p) : ∀ t ∈ looks ops p.o, p.e.tmps.getD t .undef = (slE T listed e0).tmps.getD t .undef := by
  intro t ht
  have hch := h.chain
  rw [hT] at hch
  obtain ⟨e1, s1, h1, h2⟩ := hch.split
  obtain ⟨rfl, rfl, _⟩ := h2.head
  by_cases hlt : t < e0.tmps.length
  · rw [slE_slot hlt]
    have hd := h.diff
    rw [hT, List.pairwise_append] at hd
    rw [h1.slot hd.1 hlt]
    unfold sl
    have hf : T.find? (writes t) = (A.find? (writes t)).or ((p :: B).find? (writes t)) := by rw [hT, List.find?_append]
    rw [hf]
    cases hA : A.find? (writes t) with
    | some q =>
      show q.x = if listed.getD q.i false = true then q.x else e0.tmps.getD t .undef
      have hqA := List.mem_of_find?_eq_some hA
      have hw : q.o.dst = some t := by simpa [writes] using List.find?_some hA
      have := (h.agree hT hn (by rw [hT]; simp [hqA]) ht hw).1 hqA
      rw [if_pos (show listed.getD q.i false = true from this)]
    | none =>
      simp only [Option.none_or]
      cases hB : (p :: B).find? (writes t) with
      | none => rfl
      | some q =>
        simp only
        have hqB := List.mem_of_find?_eq_some hB
        have hw : q.o.dst = some t := by simpa [writes] using List.find?_some hB
        have hno : q ∉ A := fun hqA => by
          rw [List.find?_eq_none] at hA
          exact hA q hqA (List.find?_some hB)
        have hqT : q ∈ T := by rw [hT]; exact List.mem_append_right _ hqB
        rw [if_neg fun hh : listed.getD q.i false = true => hno ((h.agree hT hn hqT ht hw).2 hh)]
  · rw [slE_out (Nat.le_of_not_lt hlt), List.getD_eq_getElem?_getD, List.getElem?_eq_none (by rw [h1.env.1]; exact Nat.le_of_not_lt hlt)]; rfl

/-! ### Memory along the row -/
theorem chk_refl (l : Option (Nat × Nat)) (s : St) : chk l s s := by cases l <;> simp [chk]
theorem chk_trans {l : Option (Nat × Nat)} {s s1 s2 : St} (h : chk l s s1) (k : chk l s1 s2) : chk l s s2 := by
  cases l with
  | none => trivial
  | some p => exact Eq.trans h k
theorem chk_symm {l : Option (Nat × Nat)} {s s1 : St} (h : chk l s s1) : chk l s1 s := by
  cases l with
  | none => trivial
  | some p => exact Eq.symm h

theorem kinds {p : Step} (h : kindOf p.o.op ≠ .other) : (kindOf p.o.op = .pure ∨ kindOf p.o.op = .read) ∨ isWr p ∨ isAlloc p.o = true := by
  unfold isWr isAlloc
  cases hk : kindOf p.o.op with
  | other => exact absurd hk h
  | pure => exact .inl (.inl rfl)
  | read => exact .inl (.inr rfl)
  | write => exact .inr (.inl rfl)
  | alloc => exact .inr (.inr rfl)

theorem walk {e e1 : Env} {s s1 : St} {U : List Step} {loc : Option (Nat × Nat)} (h : Chain X cf ops e s U e1 s1) (ha : ∀ q ∈ U, isAlloc q.o = false) (hk : ∀ q ∈ U, kindOf q.o.op ≠ .other) (hw : ∀ q ∈ U, isWr q → chk loc q.s q.s') : chk loc s s1 := by
  induction h with
  | nil => exact chk_refl _ _
  | @cons p U e1 s1 ho hd h ih =>
    refine chk_trans ?_ (ih (fun q hq => ha q (by simp [hq])) (fun q hq => hk q (by simp [hq])) fun q hq => hw q (by simp [hq]))
    rcases kinds (hk p (by simp)) with h1 | h1 | h1
    · rw [quiet h1 hd]; exact chk_refl _ _
    · exact hw p (by simp) h1
    · rw [ha p (by simp)] at h1; cases h1
theorem still {e e1 : Env} {s s1 : St} {U : List Step} (h : Chain X cf ops e s U e1 s1) (ha : ∀ q ∈ U, isAlloc q.o = false) (hk : ∀ q ∈ U, kindOf q.o.op ≠ .other) (hw : ∀ q ∈ U, ¬ isWr q) : s1 = s := by
  induction h with
  | nil => rfl
  | @cons p U e1 s1 ho hd h ih =>
    have h2 := ih (fun q hq => ha q (by simp [hq])) (fun q hq => hk q (by simp [hq])) fun q hq => hw q (by simp [hq])
    rcases kinds (hk p (by simp)) with h1 | h1 | h1
    · rw [h2, quiet h1 hd]
    · exact absurd h1 (hw p (by simp))
    · rw [ha p (by simp)] at h1; cases h1

/-- Where the world stands in the machine's row. -/
structure Cut (X : Cx) (cf : CallF) (ops : List Oper) (e0 : Env) (s0 : St) (T : List Step) (e' : Env) (s' : St) (listed : Array Bool) (sm : St) : Prop where
  ex : ∃ T1 T2 em, T = T1 ++ T2 ∧ Chain X cf ops e0 s0 T1 em sm ∧ Chain X cf ops em sm T2 e' s' ∧ (∀ p ∈ T2, isAlloc p.o = false) ∧ (∀ p ∈ T1, isWr p → Has listed p.i) ∧ ∀ p ∈ T2, isWr p → ¬ Has listed p.i

theorem isWr_alloc {p : Step} (h : isWr p) : isAlloc p.o = false := by unfold isWr at h; simp [isAlloc, h]

theorem Run.cutWr (h : Run X cf ops e0 s0 T e' s') {sm : St} (hc : Cut X cf ops e0 s0 T e' s' listed sm) {p : Step} (hp : p ∈ T) (hn : Next ops listed p) (hw : isWr p) (hi : p.i < listed.size) :
    p.s = sm ∧ Cut X cf ops e0 s0 T e' s' (listed.setIfInBounds p.i true) p.s' := by
  obtain ⟨T1, T2, em, hT, c1, c2, na, w1, w2⟩ := hc.ex
  have hp2 : p ∈ T2 := by
    rw [hT] at hp
    rcases List.mem_append.1 hp with hp | hp
    · exact absurd (w1 p hp hw) hn.not
    · exact hp
  obtain ⟨A, B, hAB⟩ := List.append_of_mem hp2
  subst hAB
  obtain ⟨eA, sA, a1, a2⟩ := c2.split
  obtain ⟨rfl, rfl, a3⟩ := a2.head
  have hT' : T = (T1 ++ A) ++ p :: B := by rw [hT, List.append_assoc]
  have inT : ∀ q ∈ A, q ∈ T := fun q hq => by rw [hT']; simp [hq]
  obtain ⟨hA, hB⟩ := h.around hT'
  have nw : ∀ q ∈ A, ¬ isWr q := fun q hq hwq => by
    have hb := hA q (by simp [hq])
    unfold Before at hb
    rw [h.alloc (inT q hq), h.alloc hp, isWr_alloc hw, isWr_alloc hwq] at hb
    have hlt : q.i < p.i := by
      rcases hb with ⟨h1, _⟩ | ⟨_, h1⟩
      · cases h1
      · exact h1
    exact w2 q (by simp [hq]) hwq (h.before hp (inT q hq) hn hlt ((h.pairs (inT q hq) hp hlt).2.2 hwq hw))
  have hst := still a1 (fun q hq => na q (by simp [hq])) (fun q hq => (h.spec (inT q hq)).kind) nw
  refine ⟨hst, (T1 ++ A) ++ [p], B, _, by rw [hT']; simp, (c1.cat a1).cat (.cons (h.op hp) (h.chain.mem p hp).2 .nil), a3, fun q hq => na q (by simp [hq]), fun q hq hwq => ?_, fun q hq hwq hh => ?_⟩
  · rw [has_set hi]
    rcases List.mem_append.1 hq with hq | hq
    · rcases List.mem_append.1 hq with hq | hq
      · exact .inr (w1 q hq hwq)
      · exact absurd hwq (nw q hq)
    · exact .inl (by simp at hq; rw [hq])
  · rcases (has_set hi).1 hh with he | hh
    · have := hB q hq
      rw [he] at this
      exact before_irrefl this
    · exact w2 q (by simp [hq]) hwq hh

theorem Run.cutNo (h : Run X cf ops e0 s0 T e' s') {sm : St} (hc : Cut X cf ops e0 s0 T e' s' listed sm) {p : Step} (hp : p ∈ T) (hw : ¬ isWr p) (hi : p.i < listed.size) :
    Cut X cf ops e0 s0 T e' s' (listed.setIfInBounds p.i true) sm := by
  obtain ⟨T1, T2, em, hT, c1, c2, na, w1, w2⟩ := hc.ex
  refine ⟨T1, T2, em, hT, c1, c2, na, fun q hq hwq => (has_set hi).2 (.inr (w1 q hq hwq)), fun q hq hwq hh => ?_⟩
  rcases (has_set hi).1 hh with he | hh
  · have : q = p := h.inj (by rw [hT]; simp [hq]) hp he
    subst this
    exact hw hwq
  · exact w2 q hq hwq hh

theorem Run.readLoc (h : Run X cf ops e0 s0 T e' s') {sm : St} (hc : Cut X cf ops e0 s0 T e' s' listed sm) {p : Step} (hp : p ∈ T) (hn : Next ops listed p) (hr : kindOf p.o.op = .read) : chk (opLoc X p.e p.o.op) p.s sm := by
  obtain ⟨T1, T2, em, hT, c1, c2, na, w1, w2⟩ := hc.ex
  have hpa : isAlloc p.o = false := by simp [isAlloc, hr]
  have hloc : locOf X p = opLoc X p.e p.o.op := by simp [locOf, hr]
  have hck : ∀ q ∈ T, isWr q → ordered (masks ops []) p.i q.i = false → chk (opLoc X p.e p.o.op) q.s q.s' := fun q hq hw ho => by
    rw [← hloc]
    exact h.chkd.c p hp (.inl hr) q hq hw (by simp [apart, hpa, ho])
  have inT1 : ∀ q ∈ T1, q ∈ T := fun q hq => by rw [hT]; simp [hq]
  have inT2 : ∀ q ∈ T2, q ∈ T := fun q hq => by rw [hT]; simp [hq]
  have hp' := hp
  rw [hT] at hp'
  rcases List.mem_append.1 hp' with hp1 | hp2
  · obtain ⟨A, B, hAB⟩ := List.append_of_mem hp1
    subst hAB
    obtain ⟨eA, sA, a1, a2⟩ := c1.split
    obtain ⟨rfl, rfl, a3⟩ := a2.head
    obtain ⟨hA, hB⟩ := h.around (A := A) (p := p) (B := B ++ T2) (by rw [hT]; simp)
    have hq := quiet (.inr hr) (h.chain.mem p hp).2
    rw [← hq]
    refine walk a3 (fun q hq => ?_) (fun q hq => (h.spec (inT1 q (by simp [hq]))).kind) fun q hq hw => hck q (inT1 q (by simp [hq])) hw ?_
    · have hb := hB q (by simp [hq])
      unfold Before at hb
      rw [h.alloc (inT1 q (by simp [hq])), h.alloc hp, hpa] at hb
      rcases hb with ⟨h1, _⟩ | ⟨h1, _⟩
      · cases h1
      · exact h1.symm
    · have hb := hB q (by simp [hq])
      unfold Before at hb
      rw [h.alloc (inT1 q (by simp [hq])), h.alloc hp, hpa] at hb
      have hlt : p.i < q.i := by
        rcases hb with ⟨h1, _⟩ | ⟨_, h1⟩
        · cases h1
        · exact h1
      cases ho : ordered (masks ops []) p.i q.i with
      | false => rfl
      | true => exact absurd (w1 q (by simp [hq]) hw) (h.after (T := T) hn hlt ho)
  · obtain ⟨A, B, hAB⟩ := List.append_of_mem hp2
    subst hAB
    obtain ⟨eA, sA, a1, a2⟩ := c2.split
    obtain ⟨rfl, rfl, a3⟩ := a2.head
    obtain ⟨hA, hB⟩ := h.around (A := T1 ++ A) (p := p) (B := B) (by rw [hT]; simp)
    refine chk_symm (walk a1 (fun q hq => na q (by simp [hq])) (fun q hq => (h.spec (inT2 q (by simp [hq]))).kind) fun q hq hw => hck q (inT2 q (by simp [hq])) hw ?_)
    have hb := hA q (by simp [hq])
    unfold Before at hb
    rw [h.alloc (inT2 q (by simp [hq])), h.alloc hp, hpa, isWr_alloc hw] at hb
    have hlt : q.i < p.i := by
      rcases hb with ⟨h1, _⟩ | ⟨_, h1⟩
      · cases h1
      · exact h1
    cases ho : ordered (masks ops []) p.i q.i with
    | false => rfl
    | true =>
      rw [ordered_symm (by omega)] at ho
      exact absurd (h.before hp (inT2 q (by simp [hq])) hn hlt ho) (w2 q (by simp [hq]) hw)
end
end Go.Proofs.YtnfdepafmmibaaaDoor

/-! Regions whose order is open: all orders. -/
set_option linter.unusedVariables false
set_option linter.unusedSimpArgs false
namespace Go.Proofs.YtnfdepafmmibaaaDoor
open Go

section
variable {X : Cx} {cf : CallF} {e0 e' : Env} {s0 s' : St} {T : List Step} {G G' : Gh} {w w' : World} {listed : Array Bool}

structure Inv (X : Cx) (cf : CallF) (ops : Array Oper) (e0 : Env) (s0 : St) (T : List Step) (e' : Env) (s' : St) (G0 : Gh) (w0 : World) (listed : Array Bool) (G : Gh) (sm : St) (a : Act) (w : World) : Prop where
  size : listed.size = ops.size
  closed : Closed ops.toList (Has listed)
  cut : Cut X cf ops.toList e0 s0 T e' s' listed sm
  rel : Rel X G sm w
  ext : Ext G0 w0 G w
  env : EnvRel G w (slE T listed e0) a
  due : ∀ p ∈ T, isAlloc p.o = true → ¬ Has listed p.i → ∃ t d k, p.o.op = .alloc t ∧ p.x = .ptr d k 0 ∧ Due X G sm w t d k

/-- The new blocks are apart from each other and from the old ones. -/
structure Fresh (G0 : Gh) (T : List Step) : Prop where
  old : ∀ p ∈ T, isAlloc p.o = true → ∀ d k, p.x = .ptr d k 0 → ¬ G0.no d k
  diff : ∀ p ∈ T, ∀ q ∈ T, isAlloc p.o = true → isAlloc q.o = true → p.i ≠ q.i → ∀ d k d' k', p.x = .ptr d k 0 → q.x = .ptr d' k' 0 → ¬ (d = d' ∧ k = k')

theorem slE_get {t : Nat} {v : AV} (h : (slE T listed e0).tmps[t]? = some v) : t < e0.tmps.length ∧ v = sl T listed e0 t := by
  simp only [slE, List.getElem?_map] at h
  by_cases ht : t < e0.tmps.length
  · simp [ht] at h; exact ⟨ht, h.symm⟩
  · rw [List.getElem?_eq_none (by simp; omega)] at h; simp at h

theorem env_next {ops : List Oper} (h : Run X cf ops e0 s0 T e' s') {p : Step} (hp : p ∈ T) (hi : p.i < listed.size) {a : Act} {y : Value} (hE : EnvRel G w (slE T listed e0) a) (he : ∀ x y, VRel G w x y → VRel G' w' x y) (hdef : ∀ p d, DefRel G w p d → DefRel G' w' p d) (hy : VRel G' w' p.x y) :
    EnvRel G' w' (slE T (listed.setIfInBounds p.i true) e0) (a.put p.o.dst y) := by
  have hads : (a.put p.o.dst y).defers = a.defers := by cases p.o.dst <;> rfl
  have hsz : (a.put p.o.dst y).tmps.size = a.tmps.size := by cases p.o.dst <;> simp [Act.put]
  refine ⟨by rw [hsz, hE.size]; simp [slE], fun t x hx => ?_, by rw [hads]; exact hE.dlen, fun j q hj => ?_⟩
  · obtain ⟨ht, rfl⟩ := slE_get hx
    have old : VRel G' w' (sl T listed e0 t) (a.tmps.getD t undef) := he _ _ (hE.tmp t _ (by simp [slE, ht]))
    have hta : t < a.tmps.size := by rw [hE.size]; simpa [slE] using ht
    by_cases hd : p.o.dst = some t
    · have hf : T.find? (writes t) = some p := by
        cases hf : T.find? (writes t) with
        | none =>
          rw [List.find?_eq_none] at hf
          exact absurd (by simp [writes, hd]) (hf p hp)
        | some q =>
          have hq := List.mem_of_find?_eq_some hf
          have hw : q.o.dst = some t := by simpa [writes] using List.find?_some hf
          rcases pw_pick h.diff hp hq with he | he | he
          · rw [he]
          · exact absurd hw (he t hd)
          · exact absurd hd (he t hw)
      unfold sl
      rw [hf]
      simp only
      rw [if_pos (show (listed.setIfInBounds p.i true).getD p.i false = true from (has_set hi).2 (.inl rfl))]
      rw [hd]
      simp only [Act.put]
      rw [Array.getD_eq_getD_getElem?, Array.getElem?_setIfInBounds_self_of_lt hta]
      exact hy
    · have hput : (a.put p.o.dst y).tmps.getD t undef = a.tmps.getD t undef := by
        cases hdd : p.o.dst with
        | none => rfl
        | some d =>
          have hne : d ≠ t := fun e => hd (by rw [hdd, e])
          simp only [Act.put]
          rw [Array.getD_eq_getD_getElem?, Array.getD_eq_getD_getElem?, Array.getElem?_setIfInBounds_ne hne]
      rw [hput]
      have hsl : sl T (listed.setIfInBounds p.i true) e0 t = sl T listed e0 t := by
        unfold sl
        cases hf : T.find? (writes t) with
        | none => rfl
        | some q =>
          simp only
          have hw : q.o.dst = some t := by simpa [writes] using List.find?_some hf
          have hne : p.i ≠ q.i := fun e => hd (by rw [h.inj hp (List.mem_of_find?_eq_some hf) e]; exact hw)
          rw [getD_set_ne false hne]
      rw [hsl]
      exact old
  · rw [hads]
    obtain ⟨d, h1, h2⟩ := hE.dat j q hj
    exact ⟨d, h1, hdef _ _ h2⟩

theorem closed_next {ops : Array Oper} {p : Step} (hc : Closed ops.toList (Has listed)) (ho : ops.toList[p.i]? = some p.o) (hr : ∀ j ∈ opEdges p.o, Has listed j) (hi : p.i < listed.size) : Closed ops.toList (Has (listed.setIfInBounds p.i true)) := fun j o hj hs i hie => by
  rw [has_set hi] at hs ⊢
  rcases hs with rfl | hs
  · rw [ho] at hj
    injection hj with hj
    subst hj
    exact .inr (hr i hie)
  · exact .inr (hc j o hj hs i hie)

theorem inv_step {ops : Array Oper} {G0 : Gh} {w0 : World} {sm : St} {a : Act} (hcf : CFOk X cf) (h : Run X cf ops.toList e0 s0 T e' s') (hf : Fresh G0 T) (hv : Inv X cf ops e0 s0 T e' s' G0 w0 listed G sm a w) {i : Nat} (hi : i ∈ Region.ready .any ops listed)
    {Q : Exit → Act → World → Prop} {K : Act → World → Prop} (hK : ∀ G' sm' a' w', Inv X cf ops e0 s0 T e' s' G0 w0 (listed.setIfInBounds i true) G' sm' a' w' → K a' w') : wpOp X.P ops Q i K a w := by
  obtain ⟨hl, o, ho, hr⟩ := ready_has.1 hi
  have hlt : i < ops.size := by have := (List.getElem?_eq_some_iff.1 ho).1; simpa using this
  have his : i < listed.size := by rw [hv.size]; exact hlt
  obtain ⟨p, hp, rfl⟩ := h.ex (i := i) (by simpa using hlt)
  have hpo := h.op hp
  rw [hpo] at ho
  injection ho with ho
  subst ho
  have hn : Next ops.toList listed p := ⟨hv.closed, (fun hh => by unfold Has at hh; simp [his] at hl hh; rw [hl] at hh; cases hh), hr⟩
  obtain ⟨A, B, hT⟩ := List.append_of_mem hp
  have hslot := h.slot hT hn
  have hdid := ((h.chain.mem p hp).2).congr hslot
  have hclosed := closed_next hv.closed hpo hr his
  have hops : ops[p.i]? = some p.o := by simpa using hpo
  unfold wpOp
  simp only [hops]
  -- all that is new
  have fin : ∀ (G' : Gh) (sm' : St) (w' : World) (y : Value), Cut X cf ops.toList e0 s0 T e' s' (listed.setIfInBounds p.i true) sm' → Rel X G' sm' w' → Ext G w G' w' → VRel G' w' p.x y →
      (∀ q ∈ T, isAlloc q.o = true → ¬ Has listed q.i → q.i ≠ p.i → ∀ d k, q.x = .ptr d k 0 → getBlk sm' d k = getBlk sm d k) → (isAlloc p.o = false) → K (a.put p.o.dst y) w' := fun G' sm' w' y c1 c2 c3 c4 c5 c6 => by
    refine hK G' sm' _ w' ⟨by simp [hv.size], hclosed, c1, c2, hv.ext.trans c3, env_next h hp his hv.env (fun x y hx => hx.ext c3) (fun q d hd => hd.ext c3) c4, fun q hq ha hnh => ?_⟩
    rw [has_set his] at hnh
    have hne : q.i ≠ p.i := fun e => hnh (.inl e)
    obtain ⟨t, d, k, e1, e2, e3⟩ := hv.due q hq ha fun hh => hnh (.inr hh)
    exact ⟨t, d, k, e1, e2, e3.ext c3 (c5 q hq ha (fun hh => hnh (.inr hh)) hne d k e2)⟩
  obtain ⟨gw1, gw2, gw3⟩ := gate_wanted (ops := ops) (o := p.o) hv.env
  by_cases hwr : isWr p
  · obtain ⟨hs, hcut⟩ := h.cutWr hv.cut hp hn hwr his
    have hpa := isWr_alloc hwr
    have hblk : ∀ q ∈ T, isAlloc q.o = true → ¬ Has listed q.i → q.i ≠ p.i → ∀ d k, q.x = .ptr d k 0 → getBlk p.s' d k = getBlk sm d k := fun q hq ha hnh hne d k hx => by
      have hk : kindOf q.o.op = .alloc := by simpa [isAlloc] using ha
      have hap : apart (masks ops.toList []) (isAlloc q.o) q.i p.i = true := by
        rw [ha]
        simp only [apart, if_true, late, Bool.not_eq_true']
        cases ho : (decide (q.i < p.i) && ordered (masks ops.toList []) q.i p.i) with
        | false => rfl
        | true =>
          simp only [Bool.and_eq_true, decide_eq_true_eq] at ho
          exact absurd (h.before hp hq hn ho.1 ho.2) hnh
      have := h.chkd.c q hq (.inr hk) p hp hwr hap
      simp only [locOf, hk, hx, rloc, chk] at this
      rw [← hs]
      exact this.symm
    rw [hs] at hdid
    rcases hdid with ⟨b, want, hg, hb, hx, hse⟩ | ⟨hg, hop⟩
    · rw [gw3 b want hg hb, if_neg (by decide)]
      exact fin G p.s' w undef hcut (by rw [hse]; exact hv.rel) (.refl G w) (by rw [hx]; exact vrel_skip) hblk hpa
    · have hw : Region.wanted p.o (yielded ops a.tmps) = true := by
        rcases hg with hg | ⟨b, hg⟩
        · exact gw1 hg
        · exact gw2 b hg
      rw [if_pos hw]
      refine .inl ?_
      have hstep : StepOk X G p.s' w a p.o p.x := by
        rcases hop with ⟨hv', hse⟩ | ⟨hv', hm⟩
        · rw [hse]; exact (valOp_sound hv.rel hv.env hv').step
        · exact memOp_sound hcf hv.rel hv.env hv' hm
      exact hstep _ Q fun y w1 G1 r1 r2 r3 => fin G1 p.s' w1 y hcut r1 r2 r3 hblk hpa
  · have hcut := h.cutNo hv.cut hp hwr his
    rcases kinds (h.spec hp).kind with hk | hk | hk
    · have hpa : isAlloc p.o = false := by unfold isAlloc; rcases hk with hk | hk <;> simp [hk]
      have hq := quiet hk hdid
      -- the same in the memory that is
      have hdid' : Did X cf ops.toList p.o (slE T listed e0) sm p.x sm := by
        rw [hq] at hdid
        rcases hdid with ⟨b, want, hg, hb, hx, _⟩ | ⟨hg, hop⟩
        · exact .inl ⟨b, want, hg, hb, hx, rfl⟩
        · refine .inr ⟨hg, ?_⟩
          have hval : valOp X (slE T listed e0) sm p.o.op = valOp X (slE T listed e0) p.s p.o.op := by
            rcases hk with hk | hk
            · exact valOp_pure hk
            · have hloc := h.readLoc hv.cut hp hn hk
              have hev : opLoc X p.e p.o.op = opLoc X (slE T listed e0) p.o.op := by
                have := looks_eva (X := X) hslot
                generalize p.o.op = op at *
                cases op <;> first | rfl | skip
                case load t x => simp only [opLoc]; rw [this x (by simp [Op.operands])]
                case convert t u x => simp only [opLoc]; rw [this x (by simp [Op.operands])]
              rw [hev] at hloc
              exact (valOp_state hloc).symm
          rcases hop with ⟨hv', _⟩ | ⟨hv', hm⟩
          · exact .inl ⟨by rw [hval]; exact hv', rfl⟩
          · refine .inr ⟨by rw [hval]; exact hv', ?_⟩
            generalize p.o.op = op at *
            cases op <;> first | (simp [valOp] at hv'; done) | skip
            all_goals first | (rcases hk with hk | hk <;> simp [kindOf] at hk; done) | skip
            case assign x => simp [memOp] at hm ⊢; exact hm
            case call c =>
              obtain ⟨cl, args, argTypes⟩ := c
              cases cl with
              | builtin b => cases b <;> first | (simp [valOp] at hv'; done) | (rcases hk with hk | hk <;> simp [kindOf] at hk; done)
              | _ => rcases hk with hk | hk <;> simp [kindOf] at hk
      rcases hdid' with ⟨b, want, hg, hb, hx, hse⟩ | ⟨hg, hop⟩
      · rw [gw3 b want hg hb, if_neg (by decide)]
        exact fin G sm w undef hcut hv.rel (.refl G w) (by rw [hx]; exact vrel_skip) (fun _ _ _ _ _ _ _ _ => rfl) hpa
      · have hw : Region.wanted p.o (yielded ops a.tmps) = true := by
          rcases hg with hg | ⟨b, hg⟩
          · exact gw1 hg
          · exact gw2 b hg
        rw [if_pos hw]
        refine .inl ?_
        have hstep : StepOk X G sm w a p.o p.x := by
          rcases hop with ⟨hv', hse⟩ | ⟨hv', hm⟩
          · exact (valOp_sound hv.rel hv.env hv').step
          · exact memOp_sound hcf hv.rel hv.env hv' hm
        exact hstep _ Q fun y w1 G1 r1 r2 r3 => fin G1 sm w1 y hcut r1 r2 r3 (fun _ _ _ _ _ _ _ _ => rfl) hpa
    · exact absurd hk hwr
    · obtain ⟨t, d, k, e1, e2, e3⟩ := hv.due p hp hk hn.not
      have hg := (h.spec hp).bare hk
      rw [if_pos (by simp [Region.wanted, hg])]
      refine .inl ?_
      obtain ⟨w1, r1, r2, r3⟩ := due_comes hv.rel e3
      unfold Oper.wp
      have hrun : (execOp a.eval p.o).run X.P w = .ok (.value (.pointer (some ⟨w.heap.size, 0, none⟩))) w1 := by
        generalize p.o = o at e1
        obtain ⟨dst, op, ty, pos, after, guard⟩ := o
        simp only at e1
        subst e1
        simp only [execOp, Sem.run_bind, r1, Result.andThen_ok, Sem.run_pure]
      rw [hrun]
      simp only [Oper.upon]
      have hval : VRel (G.fill w.heap.size d k) w1 p.x (.pointer (some ⟨w.heap.size, 0, none⟩)) := by
        rw [e2]; exact .ptr (by simp [Gh.fill, Gh.wr])
      refine hK (G.fill w.heap.size d k) sm _ w1 ⟨by simp [hv.size], hclosed, hcut, r2, hv.ext.fill r3 (hf.old p hp hk d k e2), env_next h hp his hv.env (fun x y hx => (hx.ext r3).same rfl rfl rfl) (fun q dd hd => ?_) hval, fun q hq ha hnh => ?_⟩
      · rcases hd with hd | ⟨caps, args, h1, h2⟩
        · exact .inl hd
        · exact .inr ⟨caps, args, h1, h2.size, fun j x hj => ((h2.at_ j x hj).ext r3).same rfl rfl rfl⟩
      · rw [has_set his] at hnh
        have hne : q.i ≠ p.i := fun e => hnh (.inl e)
        obtain ⟨t', d', k', f1, f2, f3⟩ := hv.due q hq ha fun hh => hnh (.inr hh)
        exact ⟨t', d', k', f1, f2, f3.fill r3 (hf.diff q hq p hp ha hk hne d' k' d k f2 e2)⟩
end
end Go.Proofs.YtnfdepafmmibaaaDoor

/-! Regions whose order is open do what the machine says; and so do calls. -/
set_option linter.unusedVariables false
set_option linter.unusedSimpArgs false
namespace Go.Proofs.YtnfdepafmmibaaaDoor
open Go

section
variable {X : Cx} {cf : CallF} {e0 e' : Env} {s0 s' : St} {T : List Step} {G G' : Gh} {w w' : World} {listed : Array Bool}

theorem inv_all {ops : Array Oper} {G0 : Gh} {w0 : World} (hcf : CFOk X cf) (h : Run X cf ops.toList e0 s0 T e' s') (hf : Fresh G0 T) {Q : Exit → Act → World → Prop}
    (hQ : ∀ G' sm' a' w' listed, Inv X cf ops e0 s0 T e' s' G0 w0 listed G' sm' a' w' → (∀ i, i < ops.size → Has listed i) → Q .normal a' w') :
    ∀ (fuel : Nat) (listed : Array Bool) (G : Gh) (sm : St) (a : Act) (w : World), left ops.size listed ≤ fuel → Inv X cf ops e0 s0 T e' s' G0 w0 listed G sm a w → wpAny X.P .any ops Q fuel listed a w := by
  intro fuel
  induction fuel with
  | zero =>
    intro listed G sm a w hl hv
    have hall := left_zero (Nat.le_zero.1 hl)
    refine ⟨?_, hQ G sm a w listed hv hall⟩
    rw [List.eq_nil_iff_forall_not_mem]
    intro i hi
    obtain ⟨h1, o, ho, _⟩ := ready_has.1 hi
    have hlt : i < ops.size := by have := (List.getElem?_eq_some_iff.1 ho).1; simpa using this
    have := hall i hlt
    unfold Has at this
    simp [hv.size, hlt] at h1 this
    rw [h1] at this
    cases this
  | succ fuel ih =>
    intro listed G sm a w hl hv
    refine ⟨fun hnil => hQ G sm a w listed hv (ready_nil hv.size h.ok hnil), fun i hi => ?_⟩
    refine inv_step hcf h hf hv hi fun G' sm' a' w' hv' => ih _ G' sm' a' w' ?_ hv'
    obtain ⟨h1, o, ho, _⟩ := ready_has.1 hi
    have hlt : i < ops.size := by have := (List.getElem?_eq_some_iff.1 ho).1; simpa using this
    have hno : ¬ Has listed i := fun hh => by
      unfold Has at hh
      simp [hv.size, hlt] at h1 hh
      rw [h1] at hh
      cases hh
    have := left_set (listed := listed) (i := i) (n := ops.size) (by rw [hv.size]; exact hlt) hlt hno
    omega

/-- The blocks to come, set apart. -/
theorem reserve {ops : List Oper} : ∀ {U : List Step} {e e1 : Env} {s s1 : St} {G : Gh}, Chain X cf ops e s U e1 s1 → (∀ p ∈ U, isAlloc p.o = true ∧ p.o.guard = none) → Rel X G s w →
    ∃ G', Rel X G' s1 w ∧ Ext G w G' w ∧ (∀ d k b, getBlk s d k = some b → getBlk s1 d k = some b) ∧
      (∀ p ∈ U, ∃ t d k, p.o.op = .alloc t ∧ p.x = .ptr d k 0 ∧ Due X G' s1 w t d k ∧ getBlk s d k = none) ∧
      U.Pairwise fun p q => ∀ d k d' k', p.x = .ptr d k 0 → q.x = .ptr d' k' 0 → ¬ (d = d' ∧ k = k') := by
  intro U
  induction U with
  | nil =>
    intro e e1 s s1 G h _ hR
    cases h
    exact ⟨G, hR, .refl G w, fun _ _ _ h => h, (fun p hp => by cases hp), List.Pairwise.nil⟩
  | cons p U ih =>
    intro e e1 s s1 G h ha hR
    obtain ⟨hal, hg⟩ := ha p (by simp)
    have hd := (h.mem p (by simp)).2
    obtain ⟨rfl, rfl, h2⟩ := h.head
    have hop : ∃ t, p.o.op = .alloc t ∧ aAlloc X.P t p.s = some (p.x, p.s') := by
      unfold isAlloc at hal
      rcases hd with ⟨b, want, hgt, hxx⟩ | ⟨hgt, ⟨hv, hse⟩ | ⟨hvn, hm⟩⟩
      · simp [gate, hg] at hgt
      · generalize p.o.op = op at *
        cases op <;> first | (simp [valOp] at hv; done) | (simp [kindOf] at hal; done) | skip
        case call c =>
          obtain ⟨cl, args, argTypes⟩ := c
          cases cl with
          | builtin b => cases b <;> simp [kindOf] at hal
          | _ => simp [kindOf] at hal
      · generalize p.o.op = op at *
        cases op <;> first | (simp [kindOf] at hal; done) | skip
        case alloc t => exact ⟨t, rfl, by simpa [memOp] using hm⟩
        case call c =>
          obtain ⟨cl, args, argTypes⟩ := c
          cases cl with
          | builtin b => cases b <;> simp [kindOf] at hal
          | _ => simp [kindOf] at hal
    obtain ⟨t, ht, hm⟩ := hop
    obtain ⟨G1, d, k, r1, r2, r3, r4, r5, r6⟩ := alloc_resv hR hm
    obtain ⟨G2, q1, q2, q3, q4, q5⟩ := ih h2 (fun q hq => ha q (by simp [hq])) r1
    obtain ⟨b, hb⟩ : ∃ b, getBlk p.s' d k = some b := by
      obtain ⟨b, v, hb, _⟩ := r4.blk
      exact ⟨b, hb⟩
    have hb1 := q3 d k b hb
    refine ⟨G2, q1, r2.trans q2, fun d' k' b' hb' => q3 _ _ _ (r6 _ _ _ hb'), fun q hq => ?_, .cons (fun q hq d1 k1 d' k' hx hx' => ?_) q5⟩
    · rcases List.mem_cons.1 hq with rfl | hq
      · exact ⟨t, d, k, ht, r3, r4.ext q2 (by rw [hb1, hb]), r5⟩
      · obtain ⟨t', d', k', e1, e2, e3, e4⟩ := q4 q hq
        refine ⟨t', d', k', e1, e2, e3, ?_⟩
        cases hs : getBlk p.s d' k' with
        | none => rfl
        | some b' => rw [r6 _ _ _ hs] at e4; cases e4
    · rintro ⟨rfl, rfl⟩
      rw [r3] at hx
      injection hx with h1 h3
      subst h1 h3
      obtain ⟨t', d', k', e1, e2, e3, e4⟩ := q4 q hq
      rw [e2] at hx'
      injection hx' with h1 h3
      subst h1 h3
      rw [hb] at e4
      cases e4

theorem replicate_has (n i : Nat) : ¬ Has (Array.replicate n false) i := by
  unfold Has
  by_cases h : i < n <;> simp [h]
theorem left_le (n : Nat) (l : Array Bool) : left n l ≤ n := by
  unfold left
  exact Nat.le_trans (List.length_filter_le _ _) (by simp)

theorem slE_none (e0 : Env) (n : Nat) (t : Nat) : sl T (Array.replicate n false) e0 t = e0.tmps.getD t .undef := by
  unfold sl
  cases T.find? (writes t) with
  | none => rfl
  | some q =>
    simp only
    rw [if_neg (show ¬ (Array.replicate n false).getD q.i false = true from replicate_has n q.i)]

theorem chain_length {ops : List Oper} (hcf : CFOk X cf) {e e1 : Env} {s s1 : St} {U : List Step} (h : Chain X cf ops e s U e1 s1) : s1.length = s.length := by
  induction h with
  | nil => rfl
  | cons ho hd h ih => rw [ih]; exact opK_length hcf hd

theorem regions_ok (hm : X.P.follows .mixedOrders = true) (hcf : CFOk X cf) : RegionsOk X cf := by
  intro α id ops e s k out hd h
  obtain ⟨T, e', s', hk, hidx, hch, hck⟩ := trace _ _ _ _ _ _ _ h
  have hrun : Run X cf ops.toList e s T e' s' := ⟨hd, hch, hidx, hck⟩
  refine ⟨e', s', hk, chain_length hcf hch, fun G w a Q hR hE hQ => wp_region_any hm ?_⟩
  -- the new blocks first
  obtain ⟨TA, TB, hT, hTA, hTB⟩ : ∃ TA TB, T = TA ++ TB ∧ (∀ p ∈ TA, isAlloc p.o = true) ∧ ∀ p ∈ TB, isAlloc p.o = false := by
    unfold orderD at hidx
    obtain ⟨TA, TB, rfl, h1, h2⟩ := List.map_eq_append_iff.1 hidx
    refine ⟨TA, TB, rfl, fun p hp => ?_, fun p hp => ?_⟩
    · have : p.i ∈ TA.map (·.i) := List.mem_map.2 ⟨p, hp, rfl⟩
      rw [h1] at this
      have := (List.mem_filter.1 this).2
      rw [hrun.op (by simp [hp])] at this
      simpa using this
    · have : p.i ∈ TB.map (·.i) := List.mem_map.2 ⟨p, hp, rfl⟩
      rw [h2] at this
      have := (List.mem_filter.1 this).2
      rw [hrun.op (by simp [hp])] at this
      simpa using this
  have hch' := hch
  rw [hT] at hch'
  obtain ⟨eA, sA, c1, c2⟩ := hch'.split
  obtain ⟨G1, r1, r2, r3, r4, r5⟩ := reserve (w := w) c1 (fun p hp => ⟨hTA p hp, (hrun.spec (by rw [hT]; simp [hp])).bare (hTA p hp)⟩) hR
  have inTA : ∀ p ∈ T, isAlloc p.o = true → p ∈ TA := fun p hp ha => by
    rw [hT] at hp
    rcases List.mem_append.1 hp with hp | hp
    · exact hp
    · rw [hTB p hp] at ha; cases ha
  have hf : Fresh G T := by
    refine ⟨fun p hp ha d k hx hno => ?_, fun p hp q hq ha hb hne d k d' k' hx hx' => ?_⟩
    · obtain ⟨t, d', k', _, e2, _, e4⟩ := r4 p (inTA p hp ha)
      rw [hx] at e2
      injection e2 with h1 h2
      subst h1 h2
      obtain ⟨_, b, hb⟩ := hR.no d k hno
      rw [hb] at e4
      cases e4
    · rcases pw_pick r5 (inTA p hp ha) (inTA q hq hb) with he | he | he
      · rw [he] at hne; exact absurd rfl hne
      · exact he d k d' k' hx hx'
      · intro hdk; exact he d' k' d k hx' hx ⟨hdk.1.symm, hdk.2.symm⟩
  have hdrew : Ext G w G1 w.drew := r2.trans (ext_drew G1 w)
  refine inv_all (G0 := G) (w0 := w) hcf hrun hf (fun G' sm' a' w' listed hv hall => ?_) ops.size _ G1 sA a w.drew (left_le _ _) ⟨by simp, fun j o hj hs => absurd hs (replicate_has _ _), ?_, rel_drew r1, hdrew, ?_, fun p hp ha _ => ?_⟩
  · -- all is done
    have hsm : sm' = s' := by
      obtain ⟨T1, T2, em, hT', d1, d2, na, w1, w2⟩ := hv.cut.ex
      have inT : ∀ q ∈ T2, q ∈ T := fun q hq => by rw [hT']; simp [hq]
      exact (still d2 na (fun q hq => (hrun.spec (inT q hq)).kind) fun q hq hw => w2 q hq hw (hall q.i (by
        have := (List.getElem?_eq_some_iff.1 (hrun.op (inT q hq))).1
        simpa using this))).symm
    subst hsm
    refine hQ G' w' a' hv.rel hv.ext ⟨?_, fun t x hx => ?_, ?_, ?_⟩
    · rw [hv.env.size, hch.env.1]; simp [slE]
    · have hlt : t < e.tmps.length := by rw [← hch.env.1]; exact (List.getElem?_eq_some_iff.1 hx).1
      have hxs : x = e'.tmps.getD t .undef := by rw [List.getD_eq_getElem?_getD, hx]; rfl
      have hs := hch.slot hrun.diff hlt
      have : sl T listed e t = e'.tmps.getD t .undef := by
        rw [hs]
        unfold sl
        cases hf' : T.find? (writes t) with
        | none => rfl
        | some q =>
          simp only
          rw [if_pos (show listed.getD q.i false = true from hall q.i (by
            have := (List.getElem?_eq_some_iff.1 (hrun.op (List.mem_of_find?_eq_some hf'))).1
            simpa using this))]
      rw [hxs, ← this]
      exact hv.env.tmp t _ (by simp [slE, hlt])
    · rw [hv.env.dlen, hch.env.2]; rfl
    · rw [hch.env.2]; exact hv.env.dat
  · refine ⟨TA, TB, eA, hT, c1, c2, hTB, fun p hp hw => ?_, fun p _ _ => replicate_has _ _⟩
    have := isWr_alloc hw
    rw [hTA p hp] at this
    cases this
  · refine ⟨by rw [hE.size]; simp [slE], fun t x hx => ?_, hE.dlen, fun i p hi => ?_⟩
    · obtain ⟨ht, rfl⟩ := slE_get hx
      rw [slE_none]
      refine (hE.tmp t _ ?_).ext hdrew
      rw [List.getD_eq_getElem?_getD, List.getElem?_eq_getElem ht]; rfl
    · obtain ⟨d, h1, h2⟩ := hE.dat i p hi
      exact ⟨d, h1, h2.ext hdrew⟩
  · obtain ⟨t, d, k, e1, e2, e3, _⟩ := r4 p (inTA p hp ha)
    exact ⟨t, d, k, e1, e2, e3.ext (ext_drew G1 w) rfl⟩
end
end Go.Proofs.YtnfdepafmmibaaaDoor

/-! Parts of a function, for texts that say what the machine makes of it. -/
set_option linter.unusedVariables false
set_option linter.unusedSimpArgs false
namespace Go.Proofs.YtnfdepafmmibaaaDoor
open Go

def bodyOf (f : Func) : Code := f.body.getD .skip
def child (c : Code) (i : Nat) : Code :=
  match c with
  | .seq a b => if i = 0 then a else b
  | .cond _ a b => if i = 0 then a else b
  | .block _ a => a
  | .scope a => a
  | .loop a => a
  | c => c
def sub (c : Code) : List Nat → Code
  | [] => c
  | i :: p => sub (child c i) p
noncomputable def stepK {α : Type} (X : Cx) (cf : CallF) (n : Nat) (lv : Nat → Option (List Nat)) (c : Code) (i : Nat) (k : AX → Env → St → Option α) : AX → Env → St → Option α :=
  match c with
  | .seq _ b => if i = 0 then (fun x e s => match x with
      | .normal => acode X cf n lv b k e s
      | x => k x e s) else k
  | .block id _ => fun x e s => match x with
      | .exit j => if j = id then k .normal e s else k (.exit j) e s
      | x => k x e s
  | _ => k
/-- How it goes on after the part at a place. -/
noncomputable def kont {α : Type} (X : Cx) (cf : CallF) (n : Nat) (lv : Nat → Option (List Nat)) (c : Code) : List Nat → (AX → Env → St → Option α) → AX → Env → St → Option α
  | [], k => k
  | i :: p, k => kont X cf n lv (child c i) p (stepK X cf n lv c i k)
def ifA {α : Type} (c : AV) (a b : Option α) : Option α :=
  match c with
  | .v (.bool t) => if t = true then a else b
  | _ => none
def calleeV (f : AV) (args : List AV) : Option (FuncId × List AV) :=
  match f with
  | .fn g caps => some (g, args ++ caps)
  | _ => none
def roundK {α : Type} (body : (AX → Env → St → Option α) → Env → St → Option α) (lv : Option (List Nat)) (nb nt : Nat) (k : AX → Env → St → Option α) (m : Nat) (x : AX) (e' : Env) (s' : St) : Option α :=
  match x with
  | .normal => (match e'.ds with
    | [] => loopK body lv nb nt k m (killE lv (keep (depth s') nb (rightsLeft nb nt s')) e') (trim nb nt s')
    | _ => none)
  | x => k x e' s'

section
variable {X : Cx}
/-- Calls do what the machine says. -/
theorem calls_sound (hm : X.P.follows .mixedOrders = true) (hn : ∀ (f : FuncId) (fn : Func), X.P.funcs[f]? = some fn → (fn.name == "runtime.NumGoroutine") = false)
    (ho : ∀ f g, X.oracle f = some g → ∀ args s r s', g args s = some (r, s') → RefC X f args s r s') (n : Nat) : CFOk X (acall X n) :=
  acall_sound ⟨hn, ho, fun cf h => regions_ok hm h⟩ n

theorem acall_step {g : FuncId} {fn : Func} {c : Code} (h1 : X.oracle g = none) (h2 : X.P.funcs[g]? = some fn) (h3 : fn.body = some c) (n : Nat) (args : List AV) (s : St) :
    acall X (n + 1) g args s = abody X (acall X n) n g fn (bodyOf fn) (aEnd X g (adef X (acall X n) n) fn.results.toList) args s := by
  simp only [acall, h1, h2, h3, bodyOf, Option.getD_some]
theorem adef_step {cf : CallF} {g : FuncId} {fn : Func} {c : Code} (h1 : X.oracle g = none) (h2 : X.P.funcs[g]? = some fn) (h3 : fn.body = some c) (n : Nat) (args : List AV) (s : St) :
    adef X cf n g args s = abody X cf n g fn (bodyOf fn) (aEndN X fn.results.toList) args s := by
  simp only [adef, h1, h2, h3, bodyOf, Option.getD_some]
end
end Go.Proofs.YtnfdepafmmibaaaDoor

