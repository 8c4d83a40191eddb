/- The second machine is right, tenth part: code, bodies, calls: whatever it tells of a call, the model's call does. -/
import Derived.Test.YtmckaoeofikdaaaLiftM
namespace Go.Proofs.Ytmckaoeofikdaaa.Lift
open Go.RowKit
variable [Known] [Syms]

def exOf : AEx → Exit
  | .normal => .normal
  | .exit id => .exit id
  | .ret => .ret

/-- What a piece of code comes to. -/
def Done (ρ : Env) (H : Hp) (w : World) (N : Nat) (x : AEx) (l' : Fr) (H' : Hp) (Q : Exit → Act → World → Prop) : Prop :=
  ∀ ρ' a' w', FRel ρ' l' a' → WF H'.length l' → HRel ρ' H' w' N → Agree H.length ρ ρ' → Below N w w' → H.length ≤ H'.length → Q (exOf x) a' w'

def Round (P : Program) (c : Code) (Q : Exit → Act → World → Prop) (a : Act) (w : World) : Prop :=
  ∀ (b : Frame) (k : List Item) (cs : List Frame), ∃ e a' w', Q e a' w' ∧ Arrives P (lone (b.at a (.code c :: .inLoop c :: k)) cs w) b k cs e a' w'

omit [Known] [Syms] in
theorem Round.loop {P : Program} {c : Code} {Q : Exit → Act → World → Prop} {a : Act} {w : World} (h : Round P c Q a w) : (Code.loop c).wp P Q a w := fun b k cs =>
  let ⟨e, a', w', q, r⟩ := h b k cs; ⟨e, a', w', q, .of_steps (.one step_loop) r⟩

omit [Known] [Syms] in
theorem Round.of {P : Program} {c : Code} {Q : Exit → Act → World → Prop} {a : Act} {w : World} (h : c.wp P (Exit.then (Round P c Q) Q) a w) : Round P c Q a w := by
  intro b k cs
  obtain ⟨e, a₁, w₁, hq, harr⟩ := h b (.inLoop c :: k) cs
  cases e with
  | normal =>
    obtain ⟨e₂, a₂, w₂, hq₂, harr₂⟩ := hq b k cs
    exact ⟨e₂, a₂, w₂, hq₂, .of_steps (Steps.trans harr (.one step_inLoop)) harr₂⟩
  | exit id => exact ⟨_, a₁, w₁, hq, .pass (x := .inLoop c) rfl (fun _ _ => .inl (by simp)) harr⟩
  | goto l => exact ⟨_, a₁, w₁, hq, .pass (x := .inLoop c) rfl (fun _ _ => .inl (by simp)) harr⟩
  | ret => exact ⟨_, a₁, w₁, hq, .pass (x := .inLoop c) rfl (fun _ _ => .inl (by simp)) harr⟩
  | panic ch => exact ⟨_, a₁, w₁, hq, .pass (x := .inLoop c) rfl (fun _ _ => .inl (by simp)) harr⟩
  | outgrown => exact ⟨_, a₁, w₁, hq, .pass (x := .inLoop c) rfl (fun _ _ => .inl (by simp)) harr⟩

def CodeSound (P : Program) (code : Code → Fr → Hp → Option (AEx × Fr × Hp)) : Prop :=
  ∀ c l H x l' H', code c l H = some (x, l', H') → ∀ ρ a w N, FRel ρ l a → WF H.length l → HRel ρ H w N → ∀ Q, Done ρ H w N x l' H' Q →
    c.wp P Q a w ∧ ∀ c', c = .loop c' → Round P c' Q a w

section ops
variable {P : Program} [KnownOk P] {F : Fns} {m : Mach} (hm : CallSound P m.call) (hF : ∀ f fn, F f = some fn → P.funcs[f]? = some fn)
include hm hF

theorem stepW_out {ops : Array Oper} {o : Oper} {a : Act} {ρ : Env} {l : Fr} {w : World} {v : Value} {H H' : Hp} {N : Nat} (h : FRel ρ l a) (hw : WF H.length l) (hH : HRel ρ H w N)
    (hv : stepW P F m ops o l H = some (v, H')) {K : Act → World → Prop} {Q : Exit → Act → World → Prop} (hK : ∀ r w', CallPost ρ H w N v H' r w' → K (a.put o.dst r) w') :
    if Region.wanted o (yielded ops a.tmps) then o.wp P a w K Q ∨ (o.asks P a w ∧ LetsOut Q) else K (a.put o.dst undef) w := by
  rw [wanted_spec h ops o]
  rw [stepW_eq] at hv
  cases hwb : Region.wanted o (yieldedL ops l) with
  | true =>
    rw [hwb] at hv
    simp only [cond_true] at hv
    simp only [if_true]
    left
    unfold Oper.wp
    exact Out.upon (stepS_spec hm hF h (fun x _ v hv => evalL_wf hw hv) hH hv) hK
  | false =>
    rw [hwb] at hv
    simp only [cond_false, Option.some.injEq, Prod.mk.injEq] at hv
    simp only [Bool.false_eq_true, if_false]
    obtain ⟨rfl, rfl⟩ := hv
    exact hK undef w ⟨ρ, (ren3_undef _).symm, hH, Agree.refl _ _, Below.refl _ _, Nat.le_refl _, wf3_undef _⟩

theorem opsS_spec {ops : Array Oper} (todo : List Oper) : ∀ (l : Fr) (H : Hp) (x : AEx) (l' : Fr) (H' : Hp), opsS P F m ops todo l H = some (x, l', H') → ∀ ρ a w N, FRel ρ l a → WF H.length l → HRel ρ H w N →
    ∀ Q, Done ρ H w N x l' H' Q → wpList P ops Q todo a w := by
  induction todo with
  | nil =>
    intro l H x l' H' hv ρ a w N h hw hH Q hQ
    replace hv : some (AEx.normal, l, H) = some (x, l', H') := hv
    simp only [Option.some.injEq, Prod.mk.injEq] at hv
    obtain ⟨rfl, rfl, rfl⟩ := hv
    exact hQ ρ a w h hw hH (Agree.refl _ _) (Below.refl _ _) (Nat.le_refl _)
  | cons o todo ih =>
    intro l H x l' H' hv ρ a w N h hw hH Q hQ
    replace hv : opS P F m ops o l H (fun l H => opsS P F m ops todo l H) = some (x, l', H') := hv
    unfold opS at hv
    split at hv
    · rename_i v H1 hst
      obtain ⟨_, _, _, _⟩ := h
      rename_i hd hsz hsm hsl
      have h : FRel ρ l a := ⟨hd, hsz, hsm, hsl⟩
      unfold wpList
      refine stepW_out hm hF h hw hH hst fun r w' hr => ?_
      obtain ⟨ρ', rfl, g1, g2, g3, g4, g5⟩ := hr
      obtain ⟨l1, hput, hF1, hW1⟩ := fPut_spec (h.agree hw g2) o.dst v
      rw [hput] at hv
      exact ih l1 H1 x l' H' hv ρ' _ w' N hF1 (hW1 _ (hw.mono g4) g5) g1 Q fun ρ'' a' w'' q1 q2 q3 q4 q5 q6 => hQ ρ'' a' w'' q1 q2 q3 (g2.trans q4 g4) (g3.trans q5) (Nat.le_trans g4 q6)
    · cases hv

theorem codeS_spec (hmix : P.follows .mixedOrders = true) (hc : CodeSound P m.code) : CodeSound P (codeS P F m) := by
  intro c l H x l' H' hv ρ a w N h hw hH Q hQ
  have now : ∀ {y : AEx}, some (y, l, H) = some (x, l', H') → Q (exOf y) a w := by
    intro y hy
    simp only [Option.some.injEq, Prod.mk.injEq] at hy
    obtain ⟨rfl, rfl, rfl⟩ := hy
    exact hQ ρ a w h hw hH (Agree.refl _ _) (Below.refl _ _) (Nat.le_refl _)
  -- one piece, then another
  have seq : ∀ (c1 : Code) (y : Code) (K : Act → World → Prop), (∀ l1 H1 x1 l2 H2, m.code y l1 H1 = some (x1, l2, H2) → ∀ ρ1 a1 w1, FRel ρ1 l1 a1 → WF H1.length l1 → HRel ρ1 H1 w1 N → Done ρ1 H1 w1 N x1 l2 H2 Q → K a1 w1) →
      thenS m y (m.code c1 l H) = some (x, l', H') → c1.wp P (Exit.then K Q) a w := by
    intro c1 y K hK hv
    cases hr : m.code c1 l H with
    | none => rw [hr] at hv; cases hv
    | some r =>
      obtain ⟨x1, l1, H1⟩ := r
      rw [hr] at hv
      refine (hc c1 l H x1 l1 H1 hr ρ a w N h hw hH (Exit.then K Q) ?_).1
      intro ρ1 a1 w1 q1 q2 q3 q4 q5 q6
      cases x1 with
      | normal =>
        exact hK l1 H1 x l' H' hv ρ1 a1 w1 q1 q2 q3 fun ρ2 a2 w2 r1 r2 r3 r4 r5 r6 => hQ ρ2 a2 w2 r1 r2 r3 (q4.trans r4 q6) (q5.trans r5) (Nat.le_trans q6 r6)
      | exit id =>
        simp only [thenS, Option.some.injEq, Prod.mk.injEq] at hv
        obtain ⟨rfl, rfl, rfl⟩ := hv
        exact hQ ρ1 a1 w1 q1 q2 q3 q4 q5 q6
      | ret =>
        simp only [thenS, Option.some.injEq, Prod.mk.injEq] at hv
        obtain ⟨rfl, rfl, rfl⟩ := hv
        exact hQ ρ1 a1 w1 q1 q2 q3 q4 q5 q6
  unfold codeS at hv
  split at hv
  · exact ⟨wp_skip (now hv), fun _ h => by cases h⟩
  · exact ⟨wp_label (now hv), fun _ h => by cases h⟩
  · exact ⟨wp_exit (now hv), fun _ h => by cases h⟩
  · exact ⟨wp_ret (now hv), fun _ h => by cases h⟩
  · rename_i c1 y
    exact ⟨wp_seq (seq c1 y _ (fun l1 H1 x1 l2 H2 hy ρ1 a1 w1 q1 q2 q3 q4 => (hc y l1 H1 x1 l2 H2 hy ρ1 a1 w1 N q1 q2 q3 Q q4).1) hv), fun _ h => by cases h⟩
  · rename_i cnd c1 y
    refine ⟨?_, fun _ h => by cases h⟩
    unfold condS at hv
    split at hv
    · rename_i he
      exact wp_cond (t := true) (by rw [evalL_spec h he]; rfl) (by simpa using (hc c1 l H x l' H' hv ρ a w N h hw hH Q hQ).1)
    · rename_i he
      exact wp_cond (t := false) (by rw [evalL_spec h he]; rfl) (by simpa using (hc y l H x l' H' hv ρ a w N h hw hH Q hQ).1)
    · cases hv
  · rename_i id c1
    refine ⟨?_, fun _ h => by cases h⟩
    cases hr : m.code c1 l H with
    | none => rw [hr] at hv; cases hv
    | some r =>
      obtain ⟨x1, l1, H1⟩ := r
      rw [hr] at hv
      refine wp_block ((hc c1 l H x1 l1 H1 hr ρ a w N h hw hH _ ?_).1)
      intro ρ1 a1 w1 q1 q2 q3 q4 q5 q6
      cases x1 with
      | exit id' =>
        simp only [blockS] at hv
        split at hv
        · rename_i hid
          simp only [Option.some.injEq, Prod.mk.injEq] at hv
          obtain ⟨rfl, rfl, rfl⟩ := hv
          simp only [exOf, Exit.inBlock, hid, if_true]
          exact hQ ρ1 a1 w1 q1 q2 q3 q4 q5 q6
        · rename_i hid
          simp only [Option.some.injEq, Prod.mk.injEq] at hv
          obtain ⟨rfl, rfl, rfl⟩ := hv
          simp only [exOf, Exit.inBlock, hid, if_false]
          exact hQ ρ1 a1 w1 q1 q2 q3 q4 q5 q6
      | normal =>
        simp only [blockS, Option.some.injEq, Prod.mk.injEq] at hv
        obtain ⟨rfl, rfl, rfl⟩ := hv
        exact hQ ρ1 a1 w1 q1 q2 q3 q4 q5 q6
      | ret =>
        simp only [blockS, Option.some.injEq, Prod.mk.injEq] at hv
        obtain ⟨rfl, rfl, rfl⟩ := hv
        exact hQ ρ1 a1 w1 q1 q2 q3 q4 q5 q6
  · rename_i c1
    have hround : Round P c1 Q a w := Round.of (seq c1 (.loop c1) _ (fun l1 H1 x1 l2 H2 hy ρ1 a1 w1 q1 q2 q3 q4 => (hc (.loop c1) l1 H1 x1 l2 H2 hy ρ1 a1 w1 N q1 q2 q3 Q q4).2 c1 rfl) hv)
    exact ⟨hround.loop, fun c' he => by cases he; exact hround⟩
  · rename_i id ops draw
    refine ⟨?_, fun _ h => by cases h⟩
    cases draw with
    | true =>
      simp only [cond_true] at hv
      refine drawR_spec hm hF hmix hv h hw hH fun ρ' a' w' hx q1 q2 q3 q4 q5 q6 => ?_
      have := hQ ρ' a' w' q1 q2 q3 q4 q5 q6
      rw [hx] at this
      exact this
    | false =>
      simp only [cond_false] at hv
      exact wp_region_list (opsS_spec hm hF ops.toList l H x l' H' hv ρ a w N h hw hH Q hQ)
  · cases hv
end ops

/-! ### Results, bodies -/
omit [Known] [Syms] in
theorem run_loadVar {P : Program} {t : TypeId} {ad : Addr} {w : World} {v : Value} (h : (Instr.loadAt t (.pointer (some ad))).run P w = .ok v w) : (loadVar t ad).run P w = .ok v w := by
  simpa [Instr.loadAt, Instr.sureAddr] using h

def resOne (tmps : Array Value) : ResultVar → Sem Value
  | .tmp t => pure (tmps.getD t undef)
  | .cell a t => do loadVar t (← asAddr (tmps.getD a undef))

omit [Known] in
theorem aResult_spec {P : Program} {ρ : Env} {l : Fr} {a : Act} {H : Hp} {w : World} {N : Nat} (h : FRel ρ l a) (hH : HRel ρ H w N) {r : ResultVar} {v : Value} (hv : aResult P l H r = some v) :
    (resOne a.tmps r).run P w = .ok (ren3 ρ v) w := by
  unfold aResult at hv
  split at hv
  · simp only [Option.some.injEq] at hv
    subst hv
    simp only [resOne, Sem.run_pure, h.slot]
  · rename_i s t
    have ptr : ∀ {p : Addr}, l.get s = .pointer (some p) → p.spot.isNone = true → a.tmps.getD s undef = .pointer (some ⟨(ρ p.block).block, (ρ p.block).off + p.off, none⟩) := by
      intro p hp hs
      rw [h.slot, hp]
      simp only [ren3, ren2, ren1]
      rw [renA_plain ρ hs]
    split at hv
    · rename_i p n hp hr hn
      split at hv
      · rename_i hs
        cases hseg : segOf H p.block p.off n with
        | none => rw [hseg] at hv; cases hv
        | some cs =>
          rw [hseg] at hv
          simp only [Option.map_some, Option.some.injEq] at hv
          subst hv
          have hrun := run_loadVar (run_loadAt_row (P := P) hr hn w _ _ _ (by rw [List.length_map]; exact segOf_len hseg) (segOf_at hseg hH))
          simp only [resOne, ptr hp hs, asAddr, Sem.run_bind, Sem.run_pure, Result.andThen_ok, hrun, map_toArray]
          rfl
      · cases hv
    · rename_i p _ hp hr
      split at hv
      · rename_i hs
        split at hv
        · rename_i u hseg
          simp only [Option.some.injEq] at hv
          subst hv
          have hc := segOf_at hseg hH 0 (ren1 ρ u) (by simp)
          have hcell := (segOf_mem hseg hH u (by simp)).2
          have hrun := run_loadVar (run_loadAt_cell (P := P) hr w _ _ (by simpa using hc))
          simp only [resOne, ptr hp hs, asAddr, Sem.run_bind, Sem.run_pure, Result.andThen_ok, hrun, ren3_cell ρ hcell]
        · cases hv
      · cases hv
    · cases hv

omit [Known] [Syms] in
theorem results_eq (fn : Func) (tmps : Array Value) : results fn tmps = (do let vs ← fn.results.mapM (resOne tmps); pure (if h : vs.size = 1 then vs[0] else .tuple vs)) := by
  unfold results
  congr 1

omit [Known] in
theorem aResults_spec {P : Program} {ρ : Env} {l : Fr} {a : Act} {H : Hp} {w : World} {N : Nat} (h : FRel ρ l a) (hH : HRel ρ H w N) {fn : Func} {v : Value} (hv : aResults P fn l H = some v) :
    (results fn a.tmps).run P w = .ok (ren3 ρ v) w := by
  rw [results_eq]
  have lit : ∀ {rs : List ResultVar}, fn.results.toList = rs → fn.results = rs.toArray := fun h => by rw [← h]
  unfold aResults at hv
  split at hv
  · rename_i r hr
    rw [lit hr]
    simp [aResult_spec h hH hv]
  · rename_i hr
    simp only [Option.some.injEq] at hv
    subst hv
    rw [lit hr]
    simp [ren3]
  · rename_i r s hr
    rw [lit hr]
    split at hv
    · rename_i u1 u2 h1 h2
      split at hv
      · cases hv
      · rename_i ht
        simp only [Bool.or_eq_true, not_or, Bool.not_eq_true] at ht
        simp only [Option.some.injEq] at hv
        subst hv
        have e : ren3 ρ (.tuple #[u1, u2]) = .tuple #[ren3 ρ u1, ren3 ρ u2] := by
          rw [ren3_flat ρ ht.1, ren3_flat ρ ht.2]; simp [ren3]
        rw [e]
        simp [aResult_spec h hH h1, aResult_spec h hH h2]
    · cases hv
  · rename_i r s t hr
    rw [lit hr]
    split at hv
    · rename_i u1 u2 u3 h1 h2 h3
      split at hv
      · cases hv
      · rename_i ht
        simp only [Bool.or_eq_true, not_or, Bool.not_eq_true] at ht
        simp only [Option.some.injEq] at hv
        subst hv
        have e : ren3 ρ (.tuple #[u1, u2, u3]) = .tuple #[ren3 ρ u1, ren3 ρ u2, ren3 ρ u3] := by
          rw [ren3_flat ρ ht.1.1, ren3_flat ρ ht.1.2, ren3_flat ρ ht.2]; simp [ren3]
        rw [e]
        simp [aResult_spec h hH h1, aResult_spec h hH h2, aResult_spec h hH h3]
    · cases hv
  · cases hv

omit [Known] [Syms] in
theorem fPuts_spec : ∀ (vs : List Value) (l : Fr) (i : Nat), l.n ≤ 1000000 → i + vs.length ≤ l.n →
    ∃ l', (∀ {β : Type} (k : Fr → β), fPuts l i vs k = k l') ∧ l'.n = l.n ∧ ∀ t, l'.get t = if i ≤ t ∧ t < i + vs.length then vs.getD (t - i) undef else l.get t
  | [], l, i, _, _ => ⟨l, fun k => rfl, rfl, fun t => by rw [if_neg (fun h => by have h2 := h.2; simp at h2; omega)]⟩
  | v :: vs, l, i, hn, hl => by
    simp only [List.length_cons] at hl
    obtain ⟨l1, hput, hrel⟩ := fPut_get hn (some i) v
    obtain ⟨l2, h1, h2, h3⟩ := fPuts_spec vs l1 (i + 1) (by rw [hrel.1]; exact hn) (by rw [hrel.1]; omega)
    refine ⟨l2, fun k => ?_, by rw [h2, hrel.1], fun t => ?_⟩
    · have e : fPuts l i (v :: vs) k = fPut l (some i) v fun l => fPuts l (i + 1) vs k := rfl
      rw [e, hput, h1]
    · rw [h3, hrel.2]
      simp only [List.length_cons]
      by_cases hti : t = i
      · subst hti
        rw [if_neg (by omega), if_pos ⟨rfl, by omega⟩, if_pos ⟨by omega, by omega⟩]
        simp
      · rw [if_neg (c := some i = some t ∧ t < l.n) (fun h => hti (by simpa using h.1.symm))]
        by_cases hc : i + 1 ≤ t ∧ t < i + 1 + vs.length
        · rw [if_pos hc, if_pos (by omega)]
          obtain ⟨d, hd⟩ : ∃ d, t - i = d + 1 := ⟨t - i - 1, by omega⟩
          rw [hd, show t - (i + 1) = d by omega]
          simp
        · rw [if_neg hc, if_neg (by omega)]

omit [Known] in
theorem bodyS_spec {P : Program} {m : Mach} (hc : CodeSound P m.code) {g : FuncId} {fn : Func} (hf : P.funcs[g]? = some fn) {vs : List Value} {H : Hp} {v : Value} {H' : Hp} (hv : bodyS P m fn vs H = some (v, H'))
    {ρ : Env} {w : World} {N : Nat} (hH : HRel ρ H w N) (hvs : ∀ u ∈ vs, wf3 H.length u = true) : Calls P g (vs.map (ren3 ρ)).toArray w (endPost (CallPost ρ H w N v H')) := by
  unfold bodyS at hv
  split at hv
  · rename_i c hb
    split at hv
    · rename_i hcc
      simp only [Bool.and_eq_true, decide_eq_true_eq] at hcc
      obtain ⟨l0, hput, hn0, hg0⟩ := fPuts_spec vs ⟨fn.ntmps, .nil⟩ 0 hcc.2 (by simpa using hcc.1)
      rw [hput] at hv
      have hget : ∀ t, l0.get t = vs.getD t undef := fun t => by
        rw [hg0]
        split
        · rfl
        · rename_i hh
          rw [List.getD_eq_getElem?_getD, List.getElem?_eq_none (by omega)]; rfl
      have hFR : FRel ρ l0 { tmps := (vs.map (ren3 ρ)).toArray ++ Array.replicate (fn.ntmps - (vs.map (ren3 ρ)).toArray.size) undef, defers := [] } := by
        refine ⟨rfl, ?_, by rw [hn0]; exact hcc.2, fun t => ?_⟩
        · rw [hn0]; simp; omega
        · rw [hget]
          simp only [Array.getD_eq_getD_getElem?, List.getD_eq_getElem?_getD]
          by_cases ht : t < vs.length
          · rw [Array.getElem?_append_left (by simpa using ht)]
            simp [ht]
          · have h1 : vs[t]? = none := List.getElem?_eq_none (Nat.le_of_not_lt ht)
            rw [Array.getElem?_append_right (by simpa using Nat.le_of_not_lt ht), h1, Array.getElem?_replicate]
            split <;> simp [ren3_undef]
      have hWF : WF H.length l0 := fun t => by
        rw [hget, List.getD_eq_getElem?_getD]
        cases ht : vs[t]? with
        | none => exact wf3_undef _
        | some u => exact hvs u (List.mem_of_getElem? ht)
      cases hr : m.code c l0 H with
      | none => rw [hr] at hv; cases hv
      | some r =>
        obtain ⟨x, l', H1⟩ := r
        rw [hr] at hv
        refine calls_of_wp hf hb ((hc c l0 H x l' H1 hr ρ _ w N hFR hWF hH _ ?_).1)
        intro ρ1 a1 w1 q1 q2 q3 q4 q5 q6
        have fin : ∀ {u : Value}, aResults P fn l' H1 = some u → aWf H1 u = some (v, H') → a1.defers = [] ∧ ∃ r, (results fn a1.tmps).run P w1 = .ok r w1 ∧ endPost (CallPost ρ H w N v H') (.returned r) w1 := by
          intro u hu hwf
          unfold aWf at hwf
          split at hwf
          · rename_i hw3
            simp only [Option.some.injEq, Prod.mk.injEq] at hwf
            obtain ⟨rfl, rfl⟩ := hwf
            exact ⟨q1.defers, _, aResults_spec q1 q3 hu, ρ1, rfl, q3, q4, q5, q6, hw3⟩
          · cases hwf
        cases x with
        | exit id => simp [endS] at hv
        | normal =>
          simp only [endS] at hv
          split at hv
          · rename_i u hu; exact fin hu hv
          · cases hv
        | ret =>
          simp only [endS] at hv
          split at hv
          · rename_i u hu; exact fin hu hv
          · cases hv
    · cases hv
  · cases hv

/-- What is already known of some calls. -/
def OrcSound (P : Program) (O : Orc) : Prop := CallSound P O

/-- Whatever the second machine tells of a call, the model's call does. -/
theorem mach_sound {P : Program} [KnownOk P] {F : Fns} {O : Orc} (hF : ∀ f fn, F f = some fn → P.funcs[f]? = some fn) (hmix : P.follows .mixedOrders = true) (hO : OrcSound P O) :
    ∀ n, CallSound P (mach P F O n).call ∧ CodeSound P (mach P F O n).code
  | 0 => ⟨fun g vs H v H' h => (by cases h), fun c l H x l' H' h => (by cases h)⟩
  | n + 1 => by
    obtain ⟨h1, h2⟩ := mach_sound hF hmix hO n
    refine ⟨fun g vs H v H' hv ρ w N hH hvs => ?_, codeS_spec h1 hF hmix h2⟩
    replace hv : callF P F O (mach P F O n) g vs H = some (v, H') := hv
    unfold callF at hv
    split at hv
    · rename_i r hr
      simp only [Option.some.injEq] at hv
      subst hv
      exact hO g vs H v H' hr ρ w N hH hvs
    · split at hv
      · rename_i fn hfn
        exact bodyS_spec h2 (hF _ _ hfn) hv hH hvs
      · cases hv

end Go.Proofs.Ytmckaoeofikdaaa.Lift
