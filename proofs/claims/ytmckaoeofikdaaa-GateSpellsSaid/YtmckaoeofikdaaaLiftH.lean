/- The second machine is right, sixth part: append; every operation that is no call. -/
import Derived.Test.YtmckaoeofikdaaaLiftG
import Derived.Deep.Upon
namespace Go.Proofs.Ytmckaoeofikdaaa.Lift
open Go.RowKit
variable [Known] [Syms]

/-- What an append comes to. -/
def AppRes (P : Program) (t ty : TypeId) (sv xv : Value) (ρ : Env) (H : Hp) (w : World) (N : Nat) (v : Value) (H' : Hp) : Prop :=
  ∃ ρ' w', (Builtin.append_ #[t, t] ty #[sv, xv]).run P w = .ok (ren3 ρ' v) w' ∧ HRel ρ' H' w' N ∧ Agree H.length ρ ρ' ∧ Below N w w' ∧ H.length ≤ H'.length

section append
variable {P : Program} {ρ : Env} {w : World} {v : Value} {H H' : Hp} {N : Nat} (hH : HRel ρ H w N)
include hH

omit [Known] in
theorem aAppend0_spec {t ty : TypeId} {s x : Value} (hs : ∀ sz, Src P sz t x 0 [] w) (hv : aAppend0 P H t s = some (v, H')) : AppRes P t ty (ren3 ρ s) x ρ H w N v H' := by
  unfold aAppend0 at hv
  split at hv
  · rename_i e hu
    split at hv
    · rename_i sz hsz
      obtain ⟨i, hi, rfl⟩ : ∃ i, P.info? e = some i ∧ i.size = sz := by
        unfold szT at hsz
        cases hi : P.info? e with
        | none => simp [hi] at hsz
        | some i => exact ⟨i, rfl, by simpa [hi] using hsz⟩
      split at hv
      · simp only [Option.some.injEq, Prod.mk.injEq] at hv
        obtain ⟨rfl, rfl⟩ := hv
        have hr := run_append_nothing (P := P) w t t ty e i hu hi none 0 0 (Nat.le_refl _) x (hs _)
        exact ⟨ρ, w, hr, hH, Agree.refl _ _, Below.refl _ _, Nat.le_refl _⟩
      · rename_i a n k
        split at hv
        · rename_i hc
          simp only [Bool.and_eq_true] at hc
          simp only [Option.some.injEq, Prod.mk.injEq] at hv
          obtain ⟨rfl, rfl⟩ := hv
          have hle : n ≤ (if k = 0 then (ρ a.block).cap else k - 1) := by
            cases hk : Nat.beq k 0 with
            | true =>
              have hc2 := hc.2
              simp only [hk, cond_true] at hc2
              rw [if_pos (by simpa using hk)]
              exact (roomy_spec hc2 hH).1
            | false =>
              have hc2 := hc.2
              simp only [hk, cond_false, Nat.ble_eq] at hc2
              rw [if_neg (by intro h; simp [h] at hk)]
              exact hc2
          have hr := run_append_nothing (P := P) w t t ty e i hu hi (some (renA ρ a)) n _ hle x (hs _)
          exact ⟨ρ, w, hr, hH, Agree.refl _ _, Below.refl _ _, Nat.le_refl _⟩
        · cases hv
      · cases hv
    · cases hv
  · cases hv

omit [Known] in
/-- A row that grew: the new block. -/
theorem grown_rel {e : TypeId} {olds news : List Value} {sz len : Nat} {z : Value} (hn : newBlk H e (olds ++ news) sz = some H') (hl : (olds ++ news).length = len * sz) (hz : z.cells.size = sz) (old : Nat) (hmax : len ≤ maxLen) :
    HRel (upd ρ H.length ⟨w.heap.size, 0, grownCap w len old e⟩) H' (w.drew.alloc (.cells ((olds.map (ren1 ρ)).toArray ++ (news.map (ren1 ρ)).toArray ++ Builtin.zeroCells z.cells (grownCap w len old e - len)) e)) N ∧
      Below N w (w.drew.alloc (.cells ((olds.map (ren1 ρ)).toArray ++ (news.map (ren1 ρ)).toArray ++ Builtin.zeroCells z.cells (grownCap w len old e - len)) e)) ∧ H.length ≤ H'.length := by
  obtain ⟨rfl, hwf, hcell⟩ := newBlk_spec hn
  have hge := grownCap_ge w len old e
  have h := hH.drew.alloc e (olds ++ news) sz (grownCap w len old e) ((olds.map (ren1 ρ)).toArray ++ (news.map (ren1 ρ)).toArray ++ Builtin.zeroCells z.cells (grownCap w len old e - len)) ?_ ?_ (grownCap_le_maxLen w len old e hmax) hwf hcell
  · exact ⟨h, ((Below.refl N w).drew).alloc hH.base _, by simp⟩
  · simp only [Array.toList_append, List.map_append]
    rw [← List.map_append, ← List.length_map (f := ren1 ρ)]
    exact List.take_left
  · simp only [Array.size_append, List.size_toArray, List.length_map, size_zeroCells, hz]
    rw [← List.length_append, hl, ← Nat.add_mul]
    congr 1
    omega

omit [Known] in
theorem aAppend_spec {t ty : TypeId} {s : Value} {pb : Addr} (hsp : pb.spot.isNone = true) {m : Nat} (hm : m ≠ 0) (c : Nat) (hv : aAppend P H t s pb.block pb.off m = some (v, H')) :
    AppRes P t ty (ren3 ρ s) (.slice (some (renA ρ pb)) m c) ρ H w N v H' := by
  unfold aAppend at hv
  split at hv
  · rename_i e hu
    split at hv
    · rename_i i hi
      split at hv
      · rename_i z hz
        split at hv
        · rename_i hc
          simp only [Bool.and_eq_true, decide_eq_true_eq] at hc
          obtain ⟨hsz, hzs⟩ := hc
          split at hv
          · rename_i news hseg
            have hl : (news.map (ren1 ρ)).length = m * i.size := by rw [List.length_map, segOf_len hseg]
            have hat : ∀ j u, (news.map (ren1 ρ))[j]? = some u → w.cell? ((renA ρ pb).add j) = some u := fun j u hj => by
              rw [renA_plain ρ hsp, Addr.add_mid]
              exact segOf_at hseg hH j u hj
            have hone : ∀ u ∈ news.map (ren1 ρ), u.oneCell' = true := fun u hu => by
              obtain ⟨x, hx, rfl⟩ := List.mem_map.1 hu
              exact oneCell_of (by rw [isCell_ren1]; exact (segOf_mem hseg hH x hx).2)
            unfold aAppendTo at hv
            split at hv
            · split at hv
              · rename_i hb
                simp only [Bool.and_eq_true, decide_eq_true_eq] at hb
                unfold growNew at hv
                cases hn : newBlk H e ([] ++ news) i.size with
                | none => rw [hn] at hv; simp at hv
                | some H1 =>
                  simp only [hn, Option.map_some, Option.some.injEq, Prod.mk.injEq] at hv
                  obtain ⟨rfl, rfl⟩ := hv
                  have hr := run_append_nil (P := P) w t ty e i z hu hi hz (renA ρ pb) m c _ hl hat (by omega) (by omega) (by omega)
                  obtain ⟨g1, g2, g3⟩ := grown_rel (w := w) hH (z := z) (len := m) hn (by simpa using segOf_len hseg) hzs 0 (by simp [maxLen]; omega)
                  simp only [List.map_nil, Array.empty_append] at g1 g2
                  refine ⟨_, _, ?_, g1, Agree.upd _ _ _, g2, g3⟩
                  simp only [ren3, ren2, ren1] at hr ⊢
                  rw [hr]
                  simp [renA, upd_same]
              · cases hv
            · rename_i pa n k
              split at hv
              · rename_i hb
                simp only [Bool.and_eq_true, decide_eq_true_eq] at hb
                obtain ⟨⟨b1, b2⟩, b3⟩ := hb
                cases hk : Nat.beq k 0 with
                | true =>
                  simp only [hk, cond_true] at hv
                  have hk0 : k = 0 := by simpa using hk
                  subst hk0
                  split at hv
                  · rename_i hoff
                    unfold growOwn at hv
                    split at hv
                    · rename_i blk hblk
                      split at hv
                      · rename_i hcc
                        simp only [Bool.and_eq_true, decide_eq_true_eq] at hcc
                        obtain ⟨⟨⟨⟨c1, c2⟩, c3⟩, c4⟩, c5⟩ := hcc
                        rw [fCells_eq, fSet_eq, fSnoc_eq] at hv
                        simp only [Option.some.injEq, Prod.mk.injEq] at hv
                        obtain ⟨rfl, rfl⟩ := hv
                        obtain ⟨h0, hN, hcap, cur, hcur, hcs, htk⟩ := hH.own _ blk hblk c1 c2
                        have hcl : blk.cells.length ≤ cur.size := by
                          have := congrArg List.length htk
                          simp only [List.length_take, Array.length_toList, List.length_map] at this
                          omega
                        have hown : w.ownsRow N e i.size (.slice (some ⟨(ρ pa.block).block, 0, none⟩) n (ρ pa.block).cap) n ((blk.cells.take (n * i.size)).map (ren1 ρ)) := by
                          refine ⟨by simp; omega, .inr ⟨_, _, cur, rfl, hN, by rw [← c3]; exact hcur, ?_, hcap, by rw [hcs, c4], ?_⟩⟩
                          · have : n * i.size ≤ (ρ pa.block).cap * i.size := by rw [← c4, ← hcs, c4]; omega
                            exact Nat.le_of_mul_le_mul_right this hsz
                          · rw [List.map_take, ← htk]
                            simp only [List.take_take]
                            congr 1
                            omega
                        obtain ⟨v', w', hr, hown', hg, hnil, hat'⟩ := run_append_own_at (P := P) w N t ty e i z i.size i.bytes hu hi hz rfl rfl hzs hsz _ n _ hown (renA ρ pb) m c _ hl hat hone (by simp [maxLen]; omega) b1 hH.base
                        obtain ⟨hlen', hown'⟩ := hown'
                        rcases hown' with ⟨_, hn0⟩ | ⟨g', cap', cur', rfl, hNg, hg', hnc, hcm, hcs', htk'⟩
                        · omega
                        · have hR1 := hH.change hblk c1 c2 hg blk.cells false (fun h => by cases h) (hH.wf _ _ hblk) (hH.cell _ _ hblk)
                          have hblt : (ρ pa.block).block < w.heap.size := (Array.getElem?_eq_some_iff.1 hcur).1
                          have hR2 := hR1.add e (blk.cells.take (n * i.size) ++ news) i.size cap' g' cur' hg' hNg
                            (by rw [List.map_append, ← htk']; congr 1; simp [segOf_len hseg, Nat.add_mul]; omega) hcs' hcm
                            (by rw [List.length_set]; intro u hu
                                rcases List.mem_append.1 hu with hu | hu
                                · exact hH.wf _ _ hblk u (List.mem_of_mem_take hu)
                                · exact (segOf_mem hseg hH u hu).1)
                            (by intro u hu
                                rcases List.mem_append.1 hu with hu | hu
                                · exact hH.cell _ _ hblk u (List.mem_of_mem_take hu)
                                · exact (segOf_mem hseg hH u hu).2)
                            (by intro j b hj hl2 ho2 he
                                rcases get_set hj with ⟨rfl, rfl⟩ | ⟨hne, hj⟩
                                · cases hl2
                                · rcases hat' with h1 | h1
                                  · have h1 : g' = (ρ pa.block).block := by simpa [Value.ownBlock] using h1
                                    exact hH.apart j pa.block b blk hj hblk hl2 c1 ho2 c2 hne (he.trans h1)
                                  · have h1 : g' = w.heap.size := by simpa [Value.ownBlock] using h1
                                    obtain ⟨_, _, _, curj, hcj, _⟩ := hH.own j b hj hl2 ho2
                                    have := (Array.getElem?_eq_some_iff.1 hcj).1
                                    omega)
                          rw [List.length_set] at hR2
                          refine ⟨_, _, ?_, hR2, Agree.upd _ _ _, (Below.refl N w).grown hg hH.base (fun k hk => by have : (ρ pa.block).block = k := by simpa [Value.ownBlock] using hk
                                                                                                                    omega), by simp⟩
                          have e1 : ren3 ρ (.slice (some pa) n 0) = .slice (some ⟨(ρ pa.block).block, 0, none⟩) n (ρ pa.block).cap := by
                            simp only [ren3, ren2, ren1, if_true]
                            rw [renA_plain ρ b3, h0, hoff]
                          rw [e1, hr]
                          simp [ren3, ren2, ren1, renA, upd_same]
                      · cases hv
                    · cases hv
                  · cases hv
                | false =>
                  simp only [hk, cond_false] at hv
                  have hk0 : k ≠ 0 := by intro h; simp [h] at hk
                  cases hkk : Nat.ble (n + m) (k - 1) with
                  | true =>
                    simp only [hkk, cond_true] at hv
                    have hroom := Nat.le_of_ble_eq_true hkk
                    split at hv
                    · rename_i hoff
                      simp only [Bool.and_eq_true, decide_eq_true_eq] at hoff
                      obtain ⟨hoff, hel⟩ := hoff
                      cases hs : storeAt H pa.block (n * i.size) news with
                      | none => simp [hs] at hv
                      | some H1 =>
                        simp only [hs, Option.map_some, Option.some.injEq, Prod.mk.injEq] at hv
                        obtain ⟨rfl, rfl⟩ := hv
                        obtain ⟨cur, e', hcur, h0, hfit, _, hR, hB, hlen⟩ := hH.store hs
                        have hee : e' = e := by
                          unfold elemIs at hel
                          split at hel
                          · rename_i blk hblk
                            simp only [Bool.and_eq_true, decide_eq_true_eq] at hel
                            obtain ⟨⟨d1, d2⟩, rfl⟩ := hel
                            obtain ⟨_, _, _, cur2, hcur2, _⟩ := hH.own _ blk hblk d1 d2
                            rw [hcur2] at hcur
                            simp only [Option.some.injEq, Obj.cells.injEq] at hcur
                            exact hcur.2.1.symm
                          · cases hel
                        subst hee
                        have hr := run_append_room (P := P) w t ty e' i hu hi (ρ pa.block).block n (k - 1) cur hcur (renA ρ pb) m c _ hl hat hone hroom (by simpa using hfit)
                        rw [List.length_map] at hr
                        refine ⟨ρ, _, ?_, hR, Agree.refl _ _, hB, by omega⟩
                        have e1 : ren3 ρ (.slice (some pa) n k) = .slice (some ⟨(ρ pa.block).block, 0, none⟩) n (k - 1) := by
                          simp only [ren3, ren2, ren1, if_neg hk0]
                          rw [renA_plain ρ b3, h0, hoff]
                        have e2 : ren3 ρ (.slice (some pa) (n + m) k) = .slice (some ⟨(ρ pa.block).block, 0, none⟩) (n + m) (k - 1) := by
                          simp only [ren3, ren2, ren1, if_neg hk0]
                          rw [renA_plain ρ b3, h0, hoff]
                        rw [e1, e2, hr]
                    · cases hv
                  | false =>
                    simp only [hkk, cond_false] at hv
                    have hroom : k - 1 < n + m := by
                      rcases Nat.lt_or_ge (k - 1) (n + m) with h | h
                      · exact h
                      · rw [Nat.ble_eq_true_of_le h] at hkk; cases hkk
                    split at hv
                    · rename_i olds holds
                      unfold growNew at hv
                      cases hn : newBlk H e (olds ++ news) i.size with
                      | none => simp [hn] at hv
                      | some H1 =>
                        simp only [hn, Option.map_some, Option.some.injEq, Prod.mk.injEq] at hv
                        obtain ⟨rfl, rfl⟩ := hv
                        have hlo := segOf_len holds
                        have hato : ∀ j u, (olds.map (ren1 ρ))[j]? = some u → w.cell? ((renA ρ pa).add j) = some u := fun j u hj => by
                          rw [renA_plain ρ b3, Addr.add_mid]
                          exact segOf_at holds hH j u hj
                        have hr := run_append_grow (P := P) w t ty e i z hu hi hz (renA ρ pa) n (k - 1) (olds.map (ren1 ρ)) (by simpa using hlo) hato (renA ρ pb) m c _ hl hat hroom (by omega) (growslice_fits hroom b1)
                        obtain ⟨g1, g2, g3⟩ := grown_rel (w := w) hH (z := z) (len := n + m) hn (by simp [hlo, segOf_len hseg, Nat.add_mul]) hzs (k - 1) (by simp [maxLen]; omega)
                        refine ⟨_, _, ?_, g1, Agree.upd _ _ _, g2, g3⟩
                        simp only [ren3, ren2, ren1, if_neg hk0] at hr ⊢
                        rw [hr]
                        simp [renA, upd_same]
                    · cases hv
              · cases hv
            · cases hv
          · cases hv
        · cases hv
      · cases hv
    · cases hv
  · cases hv

end append

section ops
variable {P : Program} [KnownOk P] {o : Oper} {a : Act} {ρ : Env} {l : Fr} {w : World} {v : Value} {H H' : Hp} {N : Nat} (h : FRel ρ l a) (hH : HRel ρ H w N)
include h hH

omit [KnownOk P] in
omit [Known] in
theorem aAppendOp_spec {c : Call} {args : Array Operand} {argTypes : Array TypeId} (ho : o.op = .call c) (hc : c = { callee := .builtin .append, args, argTypes }) (hv : aAppendOp P l H args argTypes = some (v, H')) : OpRes P o a ρ H w N v H' := by
  subst hc
  unfold aAppendOp at hv
  split at hv
  · rename_i s x t t' hd ht
    have e1 : args = #[s, x] := by apply Array.ext'; simpa using hd
    have e2 : argTypes = #[t, t'] := by apply Array.ext'; simpa using ht
    subst e1 e2
    split at hv
    · rename_i htt
      subst htt
      have fin : ∀ {sv xv : Value}, a.eval s = sv → a.eval x = xv → AppRes P t o.type sv xv ρ H w N v H' → OpRes P o a ρ H w N v H' := by
        rintro sv xv h1 h2 ⟨ρ', w', hr, hR, hA, hB, hl⟩
        refine ⟨ρ', w', _, ?_, .inl rfl, hR, hA, hB, hl⟩
        simp only [execOp, ho, resolve, invoke, builtin, Sem.run_bind, Sem.run_pure, Result.andThen_ok, List.map_toArray, List.map_cons, List.map_nil, h1, h2, hr]
      split at hv
      · rename_i s' pa m ca hs hx
        split at hv
        · rename_i hsp
          have ex : a.eval x = .slice (some (renA ρ pa)) m (if ca = 0 then (ρ pa.block).cap else ca - 1) := evalL_spec h hx
          cases hm : Nat.beq m 0 with
          | true =>
            simp only [hm, cond_true] at hv
            have hm0 : m = 0 := by simpa using hm
            subst hm0
            have hk : ∃ e', P.underlying t = some (.slice e') := by
              unfold aAppend0 at hv
              split at hv
              · rename_i e hu; exact ⟨e, hu⟩
              · cases hv
            obtain ⟨e', hk⟩ := hk
            exact fin (evalL_spec h hs) ex (aAppend0_spec hH (fun sz => Src.ofSlice w hk (renA ρ pa) 0 _ [] (by simp) (fun j u hj => by simp at hj) (fun u hu => by cases hu)) hv)
          | false =>
            simp only [hm, cond_false] at hv
            exact fin (evalL_spec h hs) ex (aAppend_spec hH hsp (by intro h0; simp [h0] at hm) _ hv)
        · cases hv
      · rename_i s' ca hs hx
        have ex : a.eval x = .slice none 0 ca := evalL_spec h hx
        have hk : ∃ e', P.underlying t = some (.slice e') := by
          unfold aAppend0 at hv
          split at hv
          · rename_i e hu; exact ⟨e, hu⟩
          · cases hv
        obtain ⟨e', hk⟩ := hk
        exact fin (evalL_spec h hs) ex (aAppend0_spec hH (fun sz => Src.ofNil w hk ca) hv)
      · cases hv
    · cases hv
  · cases hv

omit [KnownOk P] in
omit [Known] in
theorem aMem_spec (hv : aMem P l H o.op = some (v, H')) : OpRes P o a ρ H w N v H' := by
  unfold aMem at hv
  split at hv <;> rename_i ho
  · exact aAlloc_spec hH ho hv
  · exact aBox_spec h hH ho hv
  · exact aBuild_spec h hH ho hv
  · exact aBuildSlice_spec h hH ho hv
  · exact aStore_spec h hH ho hv
  · exact aMake_spec h hH ho hv
  · exact aAppendOp_spec h hH ho rfl hv
  · exact aCopyOp_spec h hH ho rfl hv
  · cases hv

/-- Every operation that is no call of a Go function. -/
theorem aOp_spec (hv : aOp P l H o = some (v, H')) : OpRes P o a ρ H w N v H' ∧ wf3 H'.length v = true := by
  have same : ∀ {u : Value}, aWf H u = some (v, H') → (execOp a.eval o).run P w = .ok (.value (ren3 ρ u)) w → OpRes P o a ρ H w N v H' ∧ wf3 H'.length v = true := by
    intro u hu hrun
    unfold aWf at hu
    split at hu
    · rename_i hwf
      simp only [Option.some.injEq, Prod.mk.injEq] at hu
      obtain ⟨rfl, rfl⟩ := hu
      exact ⟨OpRes.same hH hrun, hwf⟩
    · cases hu
  have pure : oPure P l H o = some (v, H') → OpRes P o a ρ H w N v H' ∧ wf3 H'.length v = true := by
    intro hv
    unfold oPure at hv
    split at hv
    · rename_i u hu; exact same hv (aPure_spec h hu)
    · split at hv
      · rename_i u hu
        split at hv
        · exact same hv (aKnown_spec h hu)
        · cases hv
      · cases hv
  unfold aOp at hv
  cases h1 : kData o with
  | true =>
    rw [h1] at hv
    simp only [cond_true] at hv
    unfold oData at hv
    split at hv
    · rename_i u hu; exact same hv (aData_spec h hu)
    · exact pure hv
  | false =>
    rw [h1] at hv
    simp only [cond_false] at hv
    cases h2 : kRead o with
    | true =>
      rw [h2] at hv
      simp only [cond_true] at hv
      unfold oRead at hv
      split at hv
      · rename_i u hu; exact same hv (aRead_spec h hH hu)
      · cases hv
    | false =>
      rw [h2] at hv
      simp only [cond_false] at hv
      cases h3 : kMem o with
      | true =>
        rw [h3] at hv
        simp only [cond_true] at hv
        unfold oMem at hv
        split at hv
        · rename_i r hr
          unfold aWf' at hv
          split at hv
          · rename_i hwf
            simp only [Option.some.injEq] at hv
            subst hv
            exact ⟨aMem_spec h hH hr, hwf⟩
          · cases hv
        · cases hv
      | false =>
        rw [h3] at hv
        exact pure hv
end ops

end Go.Proofs.Ytmckaoeofikdaaa.Lift
