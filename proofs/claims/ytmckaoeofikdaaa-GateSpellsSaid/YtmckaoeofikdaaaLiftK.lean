/- The second machine is right, ninth part: the region whose order is drawn, the proof. -/
import Derived.Test.YtmckaoeofikdaaaLiftJ
namespace Go.Proofs.Ytmckaoeofikdaaa.Lift
open Go.RowKit
variable [Known] [Syms]

/-- What a slot holds when of the first k operations those in L have come. -/
noncomputable def look (ops : Array Oper) (l : Fr) (rs : List Rc) (L : Nat → Bool) : Nat → Tmp → Value
  | 0, t => l.get t
  | k + 1, t => if L k = true ∧ (ops[k]?).bind (·.dst) = some t ∧ t < l.n then ((rs[k]?).map (·.v)).getD undef else look ops l rs L k t

section look
variable {ops : Array Oper} {l : Fr} {rs : List Rc}

omit [Known] [Syms] in
theorem look_big {L : Nat → Bool} {t : Tmp} (ht : ¬ t < l.n) : ∀ k, look ops l rs L k t = l.get t
  | 0 => rfl
  | k + 1 => by
    unfold look
    rw [if_neg (fun h => ht h.2.2)]; exact look_big ht k

omit [Known] [Syms] in
theorem look_none {L : Nat → Bool} {t : Tmp} : ∀ k, (∀ j, j < k → L j = false) → look ops l rs L k t = l.get t
  | 0, _ => rfl
  | k + 1, h => by
    unfold look
    rw [if_neg (fun hh => by rw [h k (by omega)] at hh; cases hh.1)]
    exact look_none k fun j hj => h j (by omega)

omit [Known] [Syms] in
theorem look_same {L L' : Nat → Bool} {t : Tmp} : ∀ k, (∀ j, j < k → L j = L' j) → look ops l rs L k t = look ops l rs L' k t
  | 0, _ => rfl
  | k + 1, h => by
    unfold look
    rw [h k (by omega), look_same k fun j hj => h j (by omega)]

omit [Known] [Syms] in
theorem look_add {L L' : Nat → Bool} {i : Nat} {t : Tmp} (hi : L i = false) (hi' : L' i = true) (hne : ∀ j, j ≠ i → L' j = L j)
    (hap : ∀ k, i < k → L k = true → (ops[i]?).bind (·.dst) = some t → (ops[k]?).bind (·.dst) ≠ some t) :
    ∀ k, look ops l rs L' k t = if i < k ∧ (ops[i]?).bind (·.dst) = some t ∧ t < l.n then ((rs[i]?).map (·.v)).getD undef else look ops l rs L k t
  | 0 => by simp [look]
  | k + 1 => by
    have ih := look_add hi hi' hne hap k
    unfold look
    by_cases hk : k = i
    · subst hk
      rw [hi']
      by_cases hd : (ops[k]?).bind (·.dst) = some t ∧ t < l.n
      · rw [if_pos ⟨rfl, hd⟩, if_pos ⟨by omega, hd⟩]
      · rw [if_neg (fun h => hd h.2), if_neg (fun h => hd h.2), if_neg (fun h => hd h.2), ih, if_neg (fun h => hd h.2)]
    · rw [hne k hk, ih]
      by_cases hc : L k = true ∧ (ops[k]?).bind (·.dst) = some t ∧ t < l.n
      · rw [if_pos hc, if_neg]
        · rw [if_pos hc]
        · rintro ⟨h1, h2, _⟩
          exact hap k (by omega) hc.1 h2 hc.2.1
      · rw [if_neg hc]
        by_cases hd : i < k ∧ (ops[i]?).bind (·.dst) = some t ∧ t < l.n
        · rw [if_pos hd, if_pos ⟨by omega, hd.2⟩]
        · rw [if_neg hd, if_neg (fun h => hd ⟨by omega, h.2⟩), if_neg hc]

omit [Known] [Syms] in
theorem look_before {L L' : Nat → Bool} {t : Tmp} : ∀ k, (∀ j, j < k → (ops[j]?).bind (·.dst) = some t → L j = L' j) → look ops l rs L k t = look ops l rs L' k t
  | 0, _ => rfl
  | k + 1, h => by
    unfold look
    rw [look_before k fun j hj hd => h j (by omega) hd]
    by_cases hd : (ops[k]?).bind (·.dst) = some t
    · rw [h k (by omega) hd]
    · rw [if_neg (fun hh => hd hh.2.1), if_neg (fun hh => hd hh.2.1)]

omit [Known] [Syms] in
theorem look_after {L : Nat → Bool} {t : Tmp} {i : Nat} : ∀ d, (∀ j, i ≤ j → L j = true → (ops[j]?).bind (·.dst) ≠ some t) → look ops l rs L (i + d) t = look ops l rs L i t
  | 0, _ => rfl
  | d + 1, h => by
    rw [← Nat.add_assoc]
    conv => lhs; unfold look
    rw [if_neg (fun hh => h (i + d) (by omega) hh.1 hh.2.1)]
    exact look_after d h
end look

omit [Known] [Syms] in
theorem lex_look {stp : Oper → Fr → Hp → Option (Value × Hp)} {eff : Oper → Bool} {ops : Array Oper} {l l2 : Fr} {H H2 : Hp} {hs : List Hp} {rs : List Rc} (h : Pass stp eff ops.toList l H hs rs l2 H2) :
    ∀ i, i ≤ ops.size → (frAt rs l2 i).n = l.n ∧ ∀ t, (frAt rs l2 i).get t = look ops l rs (fun _ => true) i t
  | 0, _ => by rw [frAt_zero h]; exact ⟨rfl, fun t => rfl⟩
  | i + 1, hi => by
    obtain ⟨hn, hg⟩ := lex_look h i (by omega)
    have ho : ops.toList[i]? = some ops[i] := by simp
    obtain ⟨r, Hi, Hi', h1, h2, _, _, _, hp⟩ := h.fact i _ ho
    have hl : frAt rs l2 i = r.l := by simp [frAt, h1]
    refine ⟨by rw [hp.1, ← hl, hn], fun t => ?_⟩
    rw [hp.2 t, ← hl, hn]
    unfold look
    have hd : (ops[i]?).bind (·.dst) = ops[i].dst := by rw [Array.getElem?_eq_getElem (by omega)]; rfl
    rw [hd, h1, hg t]
    simp

section draw
variable {P : Program} {stp : Oper → Fr → Hp → Option (Value × Hp)} {eff : Oper → Bool} {ops : Array Oper} {l l2 : Fr} {H H2 : Hp} {hs : List Hp} {rs : List Rc}

/-- How far a walk in some order has come. -/
structure Inv (ops : Array Oper) (l : Fr) (rs : List Rc) (St : Array Bool → Nat → Env → World → Prop) (Ok : Array Bool → Nat → Value → Prop) (fuel : Nat) (listed : Array Bool) (a : Act) (w : World) : Prop where
  size : listed.size = ops.size
  closed : Closed ops listed
  rem : ∃ rem : List Nat, rem.length = fuel ∧ ∀ j, j < ops.size → listed.getD j false = false → j ∈ rem
  defers : a.defers = []
  tmps : a.tmps.size = l.n
  state : ∃ n ρ', St listed n ρ' w ∧ ∀ t, a.tmps.getD t undef = ren3 ρ' (look ops l rs (fun k => listed.getD k false) ops.size t) ∧ Ok listed n (look ops l rs (fun k => listed.getD k false) ops.size t)

omit [Known] [Syms] in
theorem listed_lt {listed : Array Bool} {j : Nat} (h : listed.getD j true = false) : j < listed.size ∧ listed.getD j false = false := by
  by_cases hj : j < listed.size
  · refine ⟨hj, ?_⟩
    simp [hj] at h ⊢; exact h
  · simp [Array.getElem?_eq_none (Nat.le_of_not_lt hj)] at h

omit [Known] [Syms] in
theorem set_getD {listed : Array Bool} {i : Nat} (hi : i < listed.size) (j : Nat) : (listed.setIfInBounds i true).getD j false = if j = i then true else listed.getD j false := by
  by_cases h : j = i
  · subst h; simp [hi]
  · rw [if_neg h, getD_set_ne false (Ne.symm h)]

omit [Known] [Syms] in
theorem effs_own {eff : Oper → Bool} {todo : List Oper} {j e : Nat} (h : (effsOf eff todo 0)[j]? = some e) : ∃ o, todo[e]? = some o ∧ eff o = true ∧ ownAt eff todo e = j := by
  obtain ⟨i, o, h1, h2, h3, h4⟩ := effs_get todo 0 j e h
  rw [Nat.zero_add] at h1
  subst h1
  exact ⟨o, h2, h3, h4⟩

/-- Where else an operation may come, it comes to the same. -/
def SameAll (stp : Oper → Fr → Hp → Option (Value × Hp)) (eff : Oper → Bool) (ops : Array Oper) (hs : List Hp) (rs : List Rc) : Prop :=
  ∀ (i : Nat) (r : Rc), rs[i]? = some r → i < ops.size → eff r.o = false → ∀ (c : Nat) (Hc : Hp), hs[c]? = some Hc → c ≤ (effsOf eff ops.toList 0).length → possAt (masksOf ops.toList []) (effsOf eff ops.toList 0) i c = true →
    c ≠ ownAt eff ops.toList i → ∃ H', stp r.o r.l Hc = some (r.v, H')

section plan
variable (hnon : ∀ {o l H v H'}, eff o = false → stp o l H = some (v, H') → H' = H) (hp : Pass stp eff ops.toList l H hs rs l2 H2)
  (hchain : chained (masksOf ops.toList []) (effsOf eff ops.toList 0) = true) (hsame : SameAll stp eff ops hs rs)
include hp

omit hp in
omit [Known] [Syms] in
theorem closed_set {listed : Array Bool} {i : Nat} {o : Oper} (hcl : Closed ops listed) (ho : ops[i]? = some o) (hi : i < listed.size) (hall : ∀ e ∈ o.after, Region.binds .any e = true → listed.getD e.on false = true) :
    Closed ops (listed.setIfInBounds i true) := by
  intro k ok hk hl e he hb
  by_cases hki : k = i
  · subst hki
    rw [ho] at hk
    simp only [Option.some.injEq] at hk
    subst hk
    exact getD_set_true (hall e he hb)
  · rw [getD_set_ne false (Ne.symm hki)] at hl
    exact getD_set_true (hcl k ok hk hl e he hb)

omit [Known] [Syms] in
theorem own_of_recs (i : Nat) : ((rs.take i).countP fun r => eff r.o) = ownAt eff ops.toList i := by
  have hlen := hp.last.2
  have : rs.map (·.o) = ops.toList := by
    apply List.ext_getElem?
    intro j
    rw [List.getElem?_map]
    cases hj : ops.toList[j]? with
    | none =>
      rw [List.getElem?_eq_none_iff] at hj
      rw [List.getElem?_eq_none (by omega)]; rfl
    | some o =>
      obtain ⟨r, _, _, h1, h2, _⟩ := hp.fact j o hj
      rw [h1, Option.map_some, h2]
  unfold ownAt
  rw [← this, ← List.map_take, List.countP_map]
  rfl

omit hp in
omit [Known] [Syms] in
theorem poss_here {listed : Array Bool} {i : Nat} {o : Oper} (hsz : listed.size = ops.size) (hcl : Closed ops listed) (ho : ops[i]? = some o) (hi : listed.getD i false = false)
    (hall : ∀ e ∈ o.after, Region.binds .any e = true → listed.getD e.on false = true) {c : Nat}
    (hpre : ∀ (j e : Nat), (effsOf eff ops.toList 0)[j]? = some e → (listed.getD e false = true ↔ j < c)) (he : eff o = false) :
    possAt (masksOf ops.toList []) (effsOf eff ops.toList 0) i c = true := by
  have hlt : i < ops.size := (Array.getElem?_eq_some_iff.1 ho).1
  have hls : i < listed.size := by omega
  have hol : ops.toList[i]? = some o := by simpa using ho
  have hcl' := closed_set hcl ho hls hall
  have hli' : (listed.setIfInBounds i true).getD i false = true := by rw [set_getD hls]; simp
  have hnot : ∀ (j e : Nat), (effsOf eff ops.toList 0)[j]? = some e → e ≠ i := by
    intro j e hje heq
    obtain ⟨x, hx, hxe, _⟩ := effs_own hje
    rw [heq, hol] at hx
    simp only [Option.some.injEq] at hx
    rw [hx, hxe] at he; cases he
  unfold possAt
  rw [Bool.and_eq_true]
  constructor
  · rw [List.all_eq_true]
    intro e hee
    obtain ⟨j, hj⟩ := List.getElem?_of_mem hee
    rw [List.getElem?_take] at hj
    split at hj
    · rename_i hjc
      have hle := (hpre j e hj).2 hjc
      cases hcb : comesBefore (masksOf ops.toList []) i e with
      | false => rfl
      | true =>
        have := comes_before hcb hcl hle
        rw [hi] at this; cases this
    · cases hj
  · rw [List.all_eq_true]
    intro e hee
    obtain ⟨j, hj⟩ := List.getElem?_of_mem hee
    rw [List.getElem?_drop] at hj
    cases hcb : comesBefore (masksOf ops.toList []) e i with
    | false => rfl
    | true =>
      have h1 := comes_before hcb hcl' hli'
      rw [set_getD hls, if_neg (hnot _ e hj)] at h1
      have := (hpre _ e hj).1 h1
      omega

include hnon hchain hsame in
omit [Known] [Syms] in
/-- What operation i comes to where the walk stands. -/
theorem step_here {listed : Array Bool} {i : Nat} {o : Oper} (hsz : listed.size = ops.size) (hcl : Closed ops listed) (ho : ops[i]? = some o) (hi : listed.getD i false = false)
    (hall : ∀ e ∈ o.after, Region.binds .any e = true → listed.getD e.on false = true) {c : Nat} {Hc : Hp}
    (hpre : ∀ (j e : Nat), (effsOf eff ops.toList 0)[j]? = some e → (listed.getD e false = true ↔ j < c)) (hc : c ≤ (effsOf eff ops.toList 0).length) (hHc : hs[c]? = some Hc) :
    ∃ r c' Hn, rs[i]? = some r ∧ r.l = frAt rs l2 i ∧ (eff o = true → c = ownAt eff ops.toList i ∧ c' = c + 1) ∧ (eff o = false → c' = c ∧ possAt (masksOf ops.toList []) (effsOf eff ops.toList 0) i c = true) ∧ stp o r.l Hc = some (r.v, Hn) ∧ hs[c']? = some Hn ∧ c' ≤ (effsOf eff ops.toList 0).length ∧
      ∀ (j e : Nat), (effsOf eff ops.toList 0)[j]? = some e → ((listed.setIfInBounds i true).getD e false = true ↔ j < c') := by
  have hlt : i < ops.size := (Array.getElem?_eq_some_iff.1 ho).1
  have hls : i < listed.size := by omega
  have hol : ops.toList[i]? = some o := by simpa using ho
  obtain ⟨r, Hi, Hi', h1, h2, h3, h4, h5, _⟩ := hp.fact i o hol
  have hl : r.l = frAt rs l2 i := by simp [frAt, h1]
  have hcl' := closed_set hcl ho hls hall
  have hli' : (listed.setIfInBounds i true).getD i false = true := by rw [set_getD hls]; simp
  cases he : eff o with
  | true =>
    have hei := effs_has ops.toList 0 i o hol he
    rw [Nat.zero_add] at hei
    have hown : ownAt eff ops.toList i = c := by
      have h6 : ¬ ownAt eff ops.toList i < c := fun hh => by
        have := (hpre _ _ hei).2 hh
        rw [hi] at this; cases this
      rcases Nat.lt_or_ge c (ownAt eff ops.toList i) with h7 | h7
      · exfalso
        have hjl : ownAt eff ops.toList i - 1 < (effsOf eff ops.toList 0).length := by
          have := (List.getElem?_eq_some_iff.1 hei).1; omega
        obtain ⟨e, hee⟩ : ∃ e, (effsOf eff ops.toList 0)[ownAt eff ops.toList i - 1]? = some e := ⟨_, List.getElem?_eq_getElem hjl⟩
        have hcb := chained_spec hchain _ e i hee (by rw [Nat.sub_add_cancel (by omega)]; exact hei)
        have hin := comes_before hcb hcl' hli'
        rw [set_getD hls] at hin
        split at hin
        · rename_i heq
          obtain ⟨_, _, _, h8⟩ := effs_own hee
          rw [heq] at h8; omega
        · have := (hpre _ _ hee).1 hin
          omega
      · omega
    have hown' : ownAt eff ops.toList (i + 1) = c + 1 := by
      rw [← hown]
      unfold ownAt
      rw [List.take_add_one, hol, List.countP_append]
      simp [he]
    rw [hown, hHc] at h3
    simp only [Option.some.injEq] at h3
    subst h3
    rw [hown'] at h4
    refine ⟨r, c + 1, Hi', h1, hl, fun _ => ⟨hown.symm, rfl⟩, fun h => (by cases h), h5, h4, ?_, ?_⟩
    · have := (List.getElem?_eq_some_iff.1 hei).1; omega
    · intro j e hje
      rw [set_getD hls]
      split
      · rename_i heq
        subst heq
        obtain ⟨_, _, _, h8⟩ := effs_own hje
        simp only [true_iff]; omega
      · rename_i hne
        rw [hpre j e hje]
        constructor
        · omega
        · intro h8
          rcases Nat.lt_or_ge j c with h9 | h9
          · exact h9
          · exfalso
            have : j = ownAt eff ops.toList i := by omega
            subst this
            rw [hei] at hje
            simp only [Option.some.injEq] at hje
            exact hne hje.symm
  | false =>
    have hnot : ∀ (j e : Nat), (effsOf eff ops.toList 0)[j]? = some e → e ≠ i := by
      intro j e hje heq
      obtain ⟨x, hx, hxe, _⟩ := effs_own hje
      rw [heq, hol] at hx
      simp only [Option.some.injEq] at hx
      rw [hx, hxe] at he; cases he
    have hpre' : ∀ (j e : Nat), (effsOf eff ops.toList 0)[j]? = some e → ((listed.setIfInBounds i true).getD e false = true ↔ j < c) := by
      intro j e hje
      rw [set_getD hls, if_neg (hnot j e hje)]
      exact hpre j e hje
    have hposs := poss_here hsz hcl ho hi hall hpre he
    by_cases hco : c = ownAt eff ops.toList i
    · rw [← hco, hHc] at h3
      simp only [Option.some.injEq] at h3
      subst h3
      have := hnon he h5
      subst this
      exact ⟨r, c, _, h1, hl, fun h => (by cases h), fun _ => ⟨rfl, hposs⟩, h5, hHc, hc, hpre'⟩
    · obtain ⟨H', hst⟩ := hsame i r h1 hlt (by rw [h2]; exact he) c Hc hHc hc hposs hco
      rw [h2] at hst
      have := hnon he hst
      subst this
      exact ⟨r, c, _, h1, hl, fun h => (by cases h), fun _ => ⟨rfl, hposs⟩, hst, hHc, hc, hpre'⟩

omit hnon hchain hsame in
omit [Known] [Syms] in
theorem same_of_all (hsk : ∀ {o l H v H'}, kData o = true → no3 v = true → stp o l H = some (v, H') → ∀ H1, ∃ H1', stp o l H1 = some (v, H1')) (hall : allSame stp eff hs rs (drawPoss eff ops) 0 = true) : SameAll stp eff ops hs rs := by
  intro i r hr hlt he c Hc hHc hc hposs hne
  obtain ⟨p, hps, hsm⟩ := allSame_spec hall i r hr he
  rcases hsm with hsm | hsm
  · unfold kSkip at hsm
    cases hd : kData r.o with
    | false => rw [hd] at hsm; cases hsm
    | true =>
      rw [hd] at hsm
      obtain ⟨r', Hi, Hi', k1, k2, k3, k4, k5, _⟩ := hp.fact i _ (show ops.toList[i]? = some ops[i] by simp [hlt])
      rw [hr] at k1
      simp only [Option.some.injEq] at k1
      subst k1
      rw [← k2] at k5
      exact hsk hd hsm k5 Hc
  rw [Nat.zero_add, own_of_recs hp] at hsm
  have hpc : p[c]? = some true := by
    unfold drawPoss at hps
    rw [List.getElem?_map, List.getElem?_range hlt] at hps
    simp only [Option.map_some, Option.some.injEq] at hps
    rw [← hps, List.getElem?_map, List.getElem?_range (by omega)]
    simp only [Option.map_some, hposs]
  exact sameOn_spec hsm c Hc hHc hpc (by omega)
end plan
end draw

omit [Known] [Syms] in
theorem plainRow_spec {own : Nat} : ∀ {ps : List Bool} {c0 : Nat}, plainRow own ps c0 = true → ∀ c, ps[c]? = some true → c0 + c = own
  | [], _, _, c, h => by simp at h
  | p :: ps, c0, h, c, hc => by
    simp only [plainRow, Bool.and_eq_true, Bool.or_eq_true, Bool.not_eq_true', Nat.beq_eq] at h
    cases c with
    | zero =>
      simp only [List.getElem?_cons_zero, Option.some.injEq] at hc
      rcases h.1 with h1 | h1
      · rw [hc] at h1; cases h1
      · simpa using h1
    | succ c =>
      have := plainRow_spec h.2 c (by simpa using hc)
      omega

omit [Known] [Syms] in
theorem plainAll_spec : ∀ {todo : List Oper} {ps : List (List Bool)} {own : Nat}, plainAll todo ps own = true → ∀ (i : Nat) (o : Oper), todo[i]? = some o → isEff o = false →
    ∃ p, ps[i]? = some p ∧ ∀ c, p[c]? = some true → c = own + ownAt isEff todo i
  | [], _, _, _, i, o, ho, _ => by simp at ho
  | _ :: _, [], _, h, _, _, _, _ => by simp [plainAll] at h
  | x :: todo, p :: ps, own, h, i, o, ho, he => by
    simp only [plainAll] at h
    cases hx : isEff x with
    | true =>
      rw [hx] at h
      simp only [cond_true] at h
      cases i with
      | zero =>
        simp only [List.getElem?_cons_zero, Option.some.injEq] at ho
        rw [ho, he] at hx; cases hx
      | succ i =>
        obtain ⟨q, h1, h2⟩ := plainAll_spec h i o (by simpa using ho) he
        refine ⟨q, by simpa using h1, fun c hc => ?_⟩
        have := h2 c hc
        simp only [ownAt, List.take_succ_cons, List.countP_cons, hx, if_true] at this ⊢
        omega
    | false =>
      rw [hx] at h
      simp only [cond_false, Bool.and_eq_true] at h
      cases i with
      | zero =>
        refine ⟨p, rfl, fun c hc => ?_⟩
        have := plainRow_spec h.1 c hc
        simp only [ownAt, List.take_zero, List.countP_nil]
        omega
      | succ i =>
        obtain ⟨q, h1, h2⟩ := plainAll_spec h.2 i o (by simpa using ho) he
        refine ⟨q, by simpa using h1, fun c hc => ?_⟩
        have := h2 c hc
        simp only [ownAt, List.take_succ_cons, List.countP_cons, hx] at this ⊢
        simpa using this

omit [Known] [Syms] in
theorem same_of_plain {stp : Oper → Fr → Hp → Option (Value × Hp)} {l l2 : Fr} {H H2 : Hp} {hs : List Hp} {rs : List Rc} {ops : Array Oper} (hp : Pass stp isEff ops.toList l H hs rs l2 H2)
    (h : plainAll ops.toList (drawPoss isEff ops) 0 = true) : SameAll stp isEff ops hs rs := by
  intro i r hr hlt he c Hc hHc hc hposs hne
  exfalso
  have hol : ops.toList[i]? = some ops[i] := by simp
  obtain ⟨r', _, _, h1, h2, _⟩ := hp.fact i _ hol
  rw [hr] at h1
  simp only [Option.some.injEq] at h1
  subst h1
  rw [h2] at he
  obtain ⟨p, hps, hpl⟩ := plainAll_spec h i _ hol he
  have hpc : p[c]? = some true := by
    unfold drawPoss at hps
    rw [List.getElem?_map, List.getElem?_range hlt] at hps
    simp only [Option.map_some, Option.some.injEq] at hps
    rw [← hps, List.getElem?_map, List.getElem?_range (by omega)]
    simp only [Option.map_some, hposs]
  have := hpl c hpc
  omega

section walk
variable {stp : Oper → Fr → Hp → Option (Value × Hp)} {eff : Oper → Bool} {ops : Array Oper} {l l2 : Fr} {H H2 : Hp} {hs : List Hp} {rs : List Rc}

/-- What is said of an operation where it comes: the state behind it, and its value. -/
def Next (St : Array Bool → Nat → Env → World → Prop) (Ok : Array Bool → Nat → Value → Prop) (listed : Array Bool) (i n : Nat) (ρ' : Env) (u : Value) (v : Value) (w' : World) : Prop :=
  ∃ n' ρ'', v = ren3 ρ'' u ∧ St (listed.setIfInBounds i true) n' ρ'' w' ∧ (∀ y, Ok listed n y → ren3 ρ'' y = ren3 ρ' y ∧ Ok (listed.setIfInBounds i true) n' y) ∧ Ok (listed.setIfInBounds i true) n' u

omit [Known] in
theorem draw_any {P : Program} (hp : Pass stp eff ops.toList l H hs rs l2 H2) (hfree : allFree ops ops.toList 0 = true) (hsel : ∀ o ∈ ops.toList, notSelect o = true) (hn : l.n ≤ 1000000)
    {St : Array Bool → Nat → Env → World → Prop} {Ok : Array Bool → Nat → Value → Prop} (okwf : ∀ listed n u, Ok listed n u → wf3 n u = true)
    (hstep : ∀ (listed : Array Bool) (i : Nat) (o : Oper) (r : Rc) (n : Nat) (ρ' : Env) (w : World) (a' : Act), listed.size = ops.size → Closed ops listed → ops[i]? = some o → listed.getD i false = false →
      (∀ e ∈ o.after, Region.binds .any e = true → listed.getD e.on false = true) → rs[i]? = some r → St listed n ρ' w → FRel ρ' r.l a' → (∀ x ∈ o.op.operands.toList, ∀ v, evalL r.l x = some v → wf3 n v = true) →
      if Region.wanted o (yieldedL ops r.l) then Out P ((execOp a'.eval o).run P w) (Next St Ok listed i n ρ' r.v) else Next St Ok listed i n ρ' r.v undef w)
    {Q : Exit → Act → World → Prop} (hQ : ∀ listed n ρ' a w, (∀ j, j < ops.size → listed.getD j false = true) → St listed n ρ' w → FRel ρ' l2 a → (∀ t, Ok listed n (l2.get t)) → Q .normal a w) :
    ∀ (fuel : Nat) (listed : Array Bool) (a : Act) (w : World), Inv ops l rs St Ok fuel listed a w → wpAny P .any ops Q fuel listed a w := by
  have hlen : rs.length = ops.size := by rw [hp.last.2]; simp
  obtain ⟨happ, hback⟩ := allFree_spec hfree
  have fin : ∀ (fuel : Nat) (listed : Array Bool) (a : Act) (w : World), Inv ops l rs St Ok fuel listed a w → (∀ j, j < ops.size → listed.getD j false = true) → Q .normal a w := by
    intro fuel listed a w hI hall
    obtain ⟨n, ρ', hSt, hs'⟩ := hI.state
    obtain ⟨hln, hlg⟩ := lex_look hp ops.size (Nat.le_refl _)
    have hf2 : frAt rs l2 ops.size = l2 := by simp [frAt, ← hlen]
    rw [hf2] at hln hlg
    have hget : ∀ t, l2.get t = look ops l rs (fun k => listed.getD k false) ops.size t := fun t => by
      rw [hlg t]
      exact look_same _ fun j hj => (hall j hj).symm
    exact hQ listed n ρ' a w hall hSt ⟨hI.defers, by rw [hI.tmps, hln], by rw [hln]; exact hn, fun t => by rw [hget t]; exact (hs' t).1⟩ (fun t => by rw [hget t]; exact (hs' t).2)
  have none_ready : ∀ (listed : Array Bool), listed.size = ops.size → Region.ready .any ops listed = [] → ∀ j, j < ops.size → listed.getD j false = true := by
    intro listed hsz hr j
    induction j using Nat.strongRecOn with
    | _ j ih =>
      intro hj
      cases hl : listed.getD j false with
      | true => rfl
      | false =>
        exfalso
        have hmem : j ∈ Region.ready .any ops listed := by
          rw [mem_ready]
          refine ⟨?_, ops[j], by simp [hj], fun e he hb => ?_⟩
          · have hjs : j < listed.size := by omega
            simp [hjs] at hl ⊢; exact hl
          · have := hback j ops[j] (by simp) e he hb
            rw [Nat.zero_add] at this
            exact ih e.on this (by omega)
        rw [hr] at hmem
        cases hmem
  intro fuel
  induction fuel with
  | zero =>
    intro listed a w hI
    obtain ⟨rem, hr0, hrem⟩ := hI.rem
    have hr0 : rem = [] := List.eq_nil_of_length_eq_zero hr0
    subst hr0
    have hall : ∀ j, j < ops.size → listed.getD j false = true := fun j hj => by
      cases hl : listed.getD j false with
      | true => rfl
      | false => exact absurd (hrem j hj hl) (by simp)
    refine ⟨?_, fin 0 listed a w hI hall⟩
    cases hr : Region.ready .any ops listed with
    | nil => rfl
    | cons j js =>
      have hj : j ∈ Region.ready .any ops listed := by rw [hr]; simp
      rw [mem_ready] at hj
      obtain ⟨h1, h2⟩ := listed_lt hj.1
      have := hall j (by rw [← hI.size]; exact h1)
      rw [h2] at this; cases this
  | succ fuel ih =>
    intro listed a w hI
    refine ⟨fun hr => fin _ listed a w hI (none_ready listed hI.size hr), fun i hi => ?_⟩
    rw [mem_ready] at hi
    obtain ⟨hi1, o, ho, hall⟩ := hi
    obtain ⟨hils, hif⟩ := listed_lt hi1
    have hiop : i < ops.size := by rw [← hI.size]; exact hils
    have hol : ops.toList[i]? = some o := by simpa using ho
    obtain ⟨n, ρ', hSt, hs'⟩ := hI.state
    obtain ⟨r, _, _, hr1, _, _, _, _, _⟩ := hp.fact i o hol
    have hr2 : r.l = frAt rs l2 i := by simp [frAt, hr1]
    obtain ⟨hln, hlg⟩ := lex_look hp i (by omega)
    rw [← hr2] at hln hlg
    -- what operation i looks at is as in the text's order
    have after : ∀ (k : Nat) (ok : Oper), i < k → listed.getD k false = true → ops[k]? = some ok → Oper.apart ops o ok = true := by
      intro k ok hik hk hok
      rcases happ i k o ok hik hol (by simpa using hok) with h | h
      · exfalso
        obtain ⟨e, he, hb, hon⟩ := directly_spec h
        have := hI.closed k ok hok hk e he hb
        rw [hon, Nat.zero_add, hif] at this; cases this
      · exact h
    have before : ∀ (k : Nat) (ok : Oper), k < i → listed.getD k false = false → ops[k]? = some ok → Oper.apart ops ok o = true := by
      intro k ok hki hk hok
      rcases happ k i ok o hki (by simpa using hok) hol with h | h
      · exfalso
        obtain ⟨e, he, hb, hon⟩ := directly_spec h
        have := hall e he hb
        rw [hon, Nat.zero_add, hk] at this; cases this
      · exact h
    have seen : ∀ t, t ∈ o.looksAt ops → r.l.get t = look ops l rs (fun k => listed.getD k false) ops.size t := by
      intro t ht
      rw [hlg t]
      have e1 : look ops l rs (fun _ => true) i t = look ops l rs (fun k => listed.getD k false) i t := by
        refine look_before i fun j hj hd => ?_
        cases hl : listed.getD j false with
        | true => rfl
        | false =>
          exfalso
          cases hok : ops[j]? with
          | none => rw [hok] at hd; cases hd
          | some ok =>
            rw [hok] at hd
            exact (Oper.apart_spec (before j ok hj hl hok)).1 t hd ht
      rw [e1]
      have e2 := look_after (ops := ops) (l := l) (rs := rs) (L := fun k => listed.getD k false) (t := t) (i := i) (ops.size - i) (fun j hij hl hd => by
        rcases Nat.lt_or_eq_of_le hij with h | h
        · cases hok : ops[j]? with
          | none => rw [hok] at hd; cases hd
          | some ok =>
            rw [hok] at hd
            exact (Oper.apart_spec (after j ok h hl hok)).2.2 t hd ht
        · subst h
          have hl' : listed.getD i false = true := hl
          rw [hif] at hl'; cases hl')
      rw [Nat.add_sub_cancel' (by omega)] at e2
      exact e2.symm
    -- a state of the text's order
    let a' : Act := { tmps := a.tmps.mapIdx fun t _ => ren3 ρ' (r.l.get t), defers := [] }
    have hFR : FRel ρ' r.l a' := by
      refine ⟨rfl, by simp [a', hI.tmps, hln], by rw [hln]; exact hn, fun t => ?_⟩
      by_cases ht : t < a.tmps.size
      · simp [a', Array.getD_eq_getD_getElem?, ht]
      · have h1 : a'.tmps.getD t undef = undef := by
          have : a'.tmps[t]? = none := Array.getElem?_eq_none (by simp only [a', Array.size_mapIdx]; exact Nat.le_of_not_lt ht)
          rw [Array.getD_eq_getD_getElem?, this]; rfl
        rw [h1, hlg t, look_big (by rw [← hI.tmps]; exact ht)]
        have h2 := (hs' t).1
        rw [look_big (by rw [← hI.tmps]; exact ht)] at h2
        rw [← h2, Array.getD_eq_getD_getElem?, Array.getElem?_eq_none (Nat.le_of_not_lt ht)]; rfl
    have hslot : ∀ t, t ∈ o.looksAt ops → a.tmps.getD t undef = a'.tmps.getD t undef := fun t ht => by
      rw [hFR.slot t, (hs' t).1, seen t ht]
    have hns : ∀ cs b, o.op ≠ .select cs b := fun cs b hb => by
      have := hsel o (List.mem_of_getElem? hol)
      simp [notSelect, hb] at this
    have hmemop : ∀ {t : Tmp}, Operand.tmp t ∈ o.op.operands.toList → t ∈ o.looksAt ops := fun {t} hx =>
      List.mem_append_left _ (List.mem_filterMap.2 ⟨.tmp t, hx, rfl⟩)
    have hexec : execOp a.eval o = execOp a'.eval o := execOp_congr o hns fun x hx => by
      cases x with
      | tmp t => exact hslot t (hmemop (by simpa using hx))
      | _ => rfl
    have hwant : Region.wanted o (yielded ops a.tmps) = Region.wanted o (yieldedL ops r.l) := by
      rw [← wanted_spec hFR ops o]
      unfold Region.wanted
      cases hg : o.guard with
      | none => rfl
      | some gw =>
        obtain ⟨g, want⟩ := gw
        have hy : yielded ops a.tmps g = yielded ops a'.tmps g := by
          unfold yielded
          cases ht : (ops[g]?).bind (·.dst) with
          | none => rfl
          | some t =>
            have h1 := hslot t (by simp [Oper.looksAt, hg, ht])
            simp only [Option.bind_some]
            by_cases hlt : t < a.tmps.size
            · have hlt' : t < a'.tmps.size := by simpa [a'] using hlt
              rw [Array.getD_eq_getD_getElem?, Array.getD_eq_getD_getElem?, Array.getElem?_eq_getElem hlt, Array.getElem?_eq_getElem hlt'] at h1
              rw [Array.getElem?_eq_getElem hlt, Array.getElem?_eq_getElem hlt']
              simp only [Option.getD_some] at h1
              rw [h1]
            · rw [Array.getElem?_eq_none (Nat.le_of_not_lt hlt), Array.getElem?_eq_none (by simp only [a', Array.size_mapIdx]; exact Nat.le_of_not_lt hlt)]
        simp only [hy]
    have hwfo : ∀ x ∈ o.op.operands.toList, ∀ v, evalL r.l x = some v → wf3 n v = true := by
      intro x hx v hv
      cases x with
      | tmp t =>
        simp only [evalL, Option.some.injEq] at hv
        subst hv
        rw [seen t (hmemop hx)]
        exact okwf _ _ _ (hs' t).2
      | const u =>
        simp only [evalL] at hv
        split at hv
        · simp only [Option.some.injEq] at hv; subst hv; exact wf3_no (by assumption)
        · cases hv
      | global g => simp [evalL] at hv
      | func f => simp only [evalL, Option.some.injEq] at hv; subst hv; rfl
    have hK : ∀ v w', Next St Ok listed i n ρ' r.v v w' → wpAny P .any ops Q fuel (listed.setIfInBounds i true) (a.put o.dst v) w' := by
      rintro v w' ⟨n', ρ'', rfl, g1, g2, g5⟩
      refine ih _ _ _ ⟨by simpa using hI.size, closed_set hI.closed ho hils hall, ?_, ?_, ?_, n', ρ'', g1, fun t => ?_⟩
      · obtain ⟨rem, hr0, hrem⟩ := hI.rem
        refine ⟨rem.erase i, ?_, fun j hj hl => ?_⟩
        · rw [List.length_erase_of_mem (hrem i hiop hif), hr0]; rfl
        · rw [set_getD hils] at hl
          split at hl
          · cases hl
          · rename_i hne
            exact (List.mem_erase_of_ne hne).2 (hrem j hj hl)
      · cases hdd : o.dst <;> exact hI.defers
      · cases hdd : o.dst with
        | none => exact hI.tmps
        | some d => simpa [Act.put] using hI.tmps
      · have hadd := look_add (ops := ops) (l := l) (rs := rs) (L := fun k => listed.getD k false) (L' := fun k => (listed.setIfInBounds i true).getD k false) (i := i) (t := t) hif
          (by show (listed.setIfInBounds i true).getD i false = true; rw [set_getD hils]; simp) (fun j hj => by show (listed.setIfInBounds i true).getD j false = _; rw [set_getD hils, if_neg hj])
          (fun k hik hk hd1 hd2 => by
            cases hok : ops[k]? with
            | none => rw [hok] at hd2; cases hd2
            | some ok =>
              rw [hok] at hd2
              rw [ho] at hd1
              exact (Oper.apart_spec (after k ok hik hk hok)).2.1 t hd1 hd2) ops.size
        rw [hadd, ho, hr1]
        simp only [Option.bind_some, Option.map_some, Option.getD_some]
        have hput : (a.put o.dst (ren3 ρ'' r.v)).tmps.getD t undef = if o.dst = some t ∧ t < l.n then ren3 ρ'' r.v else a.tmps.getD t undef := by
          cases hdd : o.dst with
          | none => simp [Act.put]
          | some d =>
            simp only [Act.put]
            rw [getD_set, hI.tmps]
            by_cases e : t = d
            · subst e; simp
            · rw [if_neg (fun h => e h.1), if_neg (fun h => e (by simpa using h.1.symm))]
        rw [hput]
        by_cases hcond : o.dst = some t ∧ t < l.n
        · rw [if_pos hcond, if_pos ⟨hiop, hcond⟩]; exact ⟨rfl, g5⟩
        · rw [if_neg hcond, if_neg (fun h => hcond h.2), (hs' t).1, (g2 _ (hs' t).2).1]
          exact ⟨rfl, (g2 _ (hs' t).2).2⟩
    unfold wpOp
    simp only [ho]
    rw [hwant]
    have hst := hstep listed i o r n ρ' w a' hI.size hI.closed ho hif hall hr1 hSt hFR hwfo
    cases hwb : Region.wanted o (yieldedL ops r.l) with
    | true =>
      rw [hwb] at hst
      simp only [if_true] at hst ⊢
      left
      unfold Oper.wp
      rw [hexec]
      exact Out.upon hst hK
    | false =>
      rw [hwb] at hst
      simp only [Bool.false_eq_true, if_false] at hst ⊢
      exact hK undef w hst

omit [Known] in
/-- The walk's beginning. -/
theorem inv_start {St : Array Bool → Nat → Env → World → Prop} {Ok : Array Bool → Nat → Value → Prop} {ρ : Env} {a : Act} {w : World} {n : Nat} (h : FRel ρ l a) (hSt : St (Array.replicate ops.size false) n ρ w)
    (hOk : ∀ t, Ok (Array.replicate ops.size false) n (l.get t)) : Inv ops l rs St Ok ops.size (Array.replicate ops.size false) a w := by
  refine ⟨by simp, ?_, ⟨List.range ops.size, by simp, fun j hj _ => by simpa using hj⟩, h.defers, h.size, n, ρ, hSt, fun t => ?_⟩
  · intro k o _ hl
    simp [Array.getElem?_replicate] at hl
    split at hl <;> simp at hl
  · have hnone : look ops l rs (fun k => (Array.replicate ops.size false).getD k false) ops.size t = l.get t := look_none _ fun j hj => by simp [hj]
    rw [hnone]
    exact ⟨h.slot t, hOk t⟩

omit [Known] [Syms] in
theorem pre_start (eff : Oper → Bool) : ∀ (j e : Nat), (effsOf eff ops.toList 0)[j]? = some e → ((Array.replicate ops.size false).getD e false = true ↔ j < 0) := by
  intro j e _
  simp only [Array.getD_eq_getD_getElem?, Array.getElem?_replicate]
  constructor
  · intro h1; split at h1 <;> simp at h1
  · intro h1; omega

omit [Known] [Syms] in
theorem pre_end {eff : Oper → Bool} {listed : Array Bool} {c : Nat} (hpre : ∀ (j e : Nat), (effsOf eff ops.toList 0)[j]? = some e → (listed.getD e false = true ↔ j < c)) (hc : c ≤ (effsOf eff ops.toList 0).length)
    (hall : ∀ j, j < ops.size → listed.getD j false = true) : c = ownAt eff ops.toList ops.toList.length := by
  rw [← effs_len ops.toList 0]
  rcases Nat.lt_or_ge c (effsOf eff ops.toList 0).length with h | h
  · exfalso
    have hg : (effsOf eff ops.toList 0)[c]? = some ((effsOf eff ops.toList 0)[c]) := List.getElem?_eq_getElem h
    obtain ⟨x, hx, _⟩ := effs_own hg
    have hlt := (List.getElem?_eq_some_iff.1 hx).1
    have := (hpre _ _ hg).1 (hall _ (by simpa using hlt))
    omega
  · omega
end walk

/-- What a step by the second machine comes to. -/
theorem stepW_here {P : Program} [KnownOk P] {F : Fns} {m : Mach} (hm : CallSound P m.call) (hF : ∀ f fn, F f = some fn → P.funcs[f]? = some fn) {ops : Array Oper} {o : Oper} {a : Act} {ρ : Env} {l : Fr} {w : World} {v : Value} {H H' : Hp} {N : Nat}
    (h : FRel ρ l a) (hw : ∀ x ∈ o.op.operands.toList, ∀ v, evalL l x = some v → wf3 H.length v = true) (hH : HRel ρ H w N) (hv : stepW P F m ops o l H = some (v, H')) :
    if Region.wanted o (yieldedL ops l) then Out P ((execOp a.eval o).run P w) (CallPost ρ H w N v H') else CallPost ρ H w N v H' undef w := by
  rw [stepW_eq] at hv
  cases hwb : Region.wanted o (yieldedL ops l) with
  | true =>
    rw [hwb] at hv
    simp only [cond_true] at hv
    simp only [if_true]
    exact stepS_spec hm hF h hw hH hv
  | false =>
    rw [hwb] at hv
    simp only [cond_false, Option.some.injEq, Prod.mk.injEq] at hv
    simp only [Bool.false_eq_true, if_false]
    obtain ⟨rfl, rfl⟩ := hv
    exact ⟨ρ, (ren3_undef _).symm, hH, Agree.refl _ _, Below.refl _ _, Nat.le_refl _, wf3_undef _⟩

omit [Known] [Syms] in
theorem Out.mono {P : Program} {r : Result Go.Next} {K K' : Value → World → Prop} (h : Out P r K) (hK : ∀ v w, K v w → K' v w) : Out P r K' := by
  cases r with
  | ok n w' =>
    cases n <;> simp only [Out] at h ⊢ <;> first | exact hK _ _ h | exact h.elim | skip
    refine Calls.mono h fun e w'' he => ?_
    cases e with
    | returned v => exact hK _ _ he
    | _ => exact he.elim
  | halt x w' => exact h.elim

/-- A region whose order is drawn, once it has been walked in the text's order. -/
theorem drawP_spec {P : Program} [KnownOk P] {F : Fns} {m : Mach} (hm : CallSound P m.call) (hF : ∀ f fn, F f = some fn → P.funcs[f]? = some fn) (hmix : P.follows .mixedOrders = true)
    {id : Nat} {ops : Array Oper} {l l2 : Fr} {H H2 : Hp} {hs : List Hp} {rs : List Rc} (hp : Pass (stepW P F m ops) isEff ops.toList l H hs rs l2 H2) (hd : drawOk isEff ops = true) (hs' : SameAll (stepW P F m ops) isEff ops hs rs)
    {ρ : Env} {a : Act} {w : World} {N : Nat} (h : FRel ρ l a) (hw : WF H.length l) (hH : HRel ρ H w N)
    {Q : Exit → Act → World → Prop} (hQ : ∀ ρ' a w', FRel ρ' l2 a → WF H2.length l2 → HRel ρ' H2 w' N → Agree H.length ρ ρ' → Below N w w' → H.length ≤ H2.length → Q .normal a w') :
    (Code.region id ops true).wp P Q a w := by
  unfold drawOk at hd
  simp only [Bool.and_eq_true, List.all_eq_true] at hd
  obtain ⟨⟨hsel, hfree⟩, hchain⟩ := hd
  let St : Array Bool → Nat → Env → World → Prop := fun listed n ρ' w' => ∃ c Hc, (∀ (j e : Nat), (effsOf isEff ops.toList 0)[j]? = some e → (listed.getD e false = true ↔ j < c)) ∧ c ≤ (effsOf isEff ops.toList 0).length ∧
    hs[c]? = some Hc ∧ n = Hc.length ∧ HRel ρ' Hc w' N ∧ Agree H.length ρ ρ' ∧ Below N w w' ∧ H.length ≤ Hc.length
  let Ok : Array Bool → Nat → Value → Prop := fun _ n u => wf3 n u = true
  refine wp_region_any hmix (draw_any (St := St) (Ok := Ok) hp hfree hsel h.small (fun _ _ _ h => h) ?_ ?_ _ _ _ _ (inv_start (n := H.length) h ?_ hw))
  · intro listed i o r n ρ' w1 a' hsz hcl ho hif hall hr ⟨c, Hc, hpre, hc, hHc, hn, hR, hA, hB, hL⟩ hFR hwfo
    subst hn
    obtain ⟨r', c', Hn, hr', _, _, _, hst, hHn, hc', hpre'⟩ := step_here (fun he h => stepW_non he h) hp hchain hs' hsz hcl ho hif hall hpre hc hHc
    rw [hr] at hr'
    simp only [Option.some.injEq] at hr'
    subst hr'
    have conv : ∀ v w', CallPost ρ' Hc w1 N r.v Hn v w' → Next St Ok listed i Hc.length ρ' r.v v w' := by
      rintro v w' ⟨ρ'', rfl, g1, g2, g3, g4, g5⟩
      exact ⟨Hn.length, ρ'', rfl, ⟨c', Hn, hpre', hc', hHn, rfl, g1, hA.trans g2 hL, hB.trans g3, Nat.le_trans hL g4⟩, fun y hy => ⟨ren3_agree g2 hy, wf3_mono g4 hy⟩, g5⟩
    have := stepW_here hm hF hFR hwfo hR hst
    split
    · rename_i hwb
      rw [if_pos hwb] at this
      exact this.mono conv
    · rename_i hwb
      rw [if_neg hwb] at this
      exact conv _ _ this
  · intro listed n ρ' a1 w1 hall ⟨c, Hc, hpre, hc, hHc, hn, hR, hA, hB, hL⟩ hFR hok
    subst hn
    have hce := pre_end hpre hc hall
    have hH2 := hp.last.1
    rw [← hce, hHc] at hH2
    simp only [Option.some.injEq] at hH2
    subst hH2
    exact hQ ρ' a1 w1 hFR hok hR hA hB hL
  · exact ⟨0, H, pre_start isEff, Nat.zero_le _, hs_zero hp, rfl, hH.drew, Agree.refl _ _, (Below.refl N w).drew, Nat.le_refl _⟩

/-- A region whose order is drawn. -/
theorem drawS_spec {P : Program} [KnownOk P] {F : Fns} {m : Mach} (hm : CallSound P m.call) (hF : ∀ f fn, F f = some fn → P.funcs[f]? = some fn) (hmix : P.follows .mixedOrders = true)
    {id : Nat} {ops : Array Oper} {l l' : Fr} {H H' : Hp} {x : AEx} (hv : drawS P F m ops l H = some (x, l', H')) {ρ : Env} {a : Act} {w : World} {N : Nat} (h : FRel ρ l a) (hw : WF H.length l) (hH : HRel ρ H w N)
    {Q : Exit → Act → World → Prop} (hQ : ∀ ρ' a w', x = .normal → FRel ρ' l' a → WF H'.length l' → HRel ρ' H' w' N → Agree H.length ρ ρ' → Below N w w' → H.length ≤ H'.length → Q .normal a w') :
    (Code.region id ops true).wp P Q a w := by
  unfold drawS at hv
  cases hd : drawOk isEff ops with
  | false => rw [hd] at hv; cases hv
  | true =>
    rw [hd] at hv
    simp only [cond_true] at hv
    obtain ⟨hs, rs, l2, H2, hp, hk⟩ := passS_spec (fun he h => stepW_non he h) ops.toList l H [] [] _ _ h.small hv
    simp only [List.nil_append] at hk
    cases hs' : allSame (stepW P F m ops) isEff hs rs (drawPoss isEff ops) 0 with
    | false => rw [hs'] at hk; cases hk
    | true =>
      rw [hs'] at hk
      simp only [cond_true, Option.some.injEq, Prod.mk.injEq] at hk
      obtain ⟨rfl, rfl, rfl⟩ := hk
      exact drawP_spec hm hF hmix hp hd (same_of_all hp (fun hd hn h H1 => stepW_skip hd hn h H1) hs') h hw hH fun ρ' a w' q1 q2 q3 q4 q5 q6 => hQ ρ' a w' rfl q1 q2 q3 q4 q5 q6

/-- Where nothing but the text's order is possible: the plain walk. -/
theorem opsS_pass {P : Program} {F : Fns} {m : Mach} {ops : Array Oper} (todo : List Oper) : ∀ (l : Fr) (H : Hp) (x : AEx) (l' : Fr) (H' : Hp), l.n ≤ 1000000 → opsS P F m ops todo l H = some (x, l', H') →
    x = .normal ∧ ∃ hs rs, Pass (stepW P F m ops) isEff todo l H hs rs l' H' := by
  induction todo with
  | nil =>
    intro l H x l' H' _ hv
    replace hv : some (AEx.normal, l, H) = some (x, l', H') := hv
    simp only [Option.some.injEq, Prod.mk.injEq] at hv
    obtain ⟨rfl, rfl, rfl⟩ := hv
    exact ⟨rfl, [H], [], .nil l H⟩
  | cons o todo ih =>
    intro l H x l' H' hn hv
    replace hv : opS P F m ops o l H (fun l H => opsS P F m ops todo l H) = some (x, l', H') := hv
    unfold opS at hv
    split at hv
    · rename_i v H1 hst
      obtain ⟨l1, hput, hrel⟩ := fPut_get hn o.dst v
      rw [hput] at hv
      obtain ⟨h1, hs, rs, h2⟩ := ih l1 H1 x l' H' (by rw [hrel.1]; exact hn) hv
      cases he : isEff o with
      | true => exact ⟨h1, _, _, .effect he hst hrel h2⟩
      | false =>
        have := stepW_non he hst
        subst this
        exact ⟨h1, _, _, .plain he hst hrel h2⟩
    · cases hv

theorem drawN_spec {P : Program} [KnownOk P] {F : Fns} {m : Mach} (hm : CallSound P m.call) (hF : ∀ f fn, F f = some fn → P.funcs[f]? = some fn) (hmix : P.follows .mixedOrders = true)
    {id : Nat} {ops : Array Oper} {l l' : Fr} {H H' : Hp} {x : AEx} (hpl : drawPlain ops = true) (hv : opsS P F m ops ops.toList l H = some (x, l', H')) {ρ : Env} {a : Act} {w : World} {N : Nat} (h : FRel ρ l a) (hw : WF H.length l) (hH : HRel ρ H w N)
    {Q : Exit → Act → World → Prop} (hQ : ∀ ρ' a w', x = .normal → FRel ρ' l' a → WF H'.length l' → HRel ρ' H' w' N → Agree H.length ρ ρ' → Below N w w' → H.length ≤ H'.length → Q .normal a w') :
    (Code.region id ops true).wp P Q a w := by
  unfold drawPlain at hpl
  simp only [Bool.and_eq_true] at hpl
  obtain ⟨hx, hs, rs, hp⟩ := opsS_pass ops.toList l H x l' H' h.small hv
  exact drawP_spec hm hF hmix hp hpl.1 (same_of_plain hp hpl.2) h hw hH fun ρ' a w' q1 q2 q3 q4 q5 q6 => hQ ρ' a w' hx q1 q2 q3 q4 q5 q6

end Go.Proofs.Ytmckaoeofikdaaa.Lift
