/- A part of the proof: texts of this claim laid together by a program of its own; what the proof does not use is struck. -/
import Derived.Test.YtbelnopbggkdfaaZT5
import Derived.Deep.RegionWith
import Derived.Deep.RegionHeld3
import Derived.Lib.Hide
import Derived.Lib.SmallJoins
import Derived.OpenShut
import Derived.Laws.Cover2
import Derived.SizedLaws
section
namespace Go.Proofs.Ytbelnopbggkdfaa.Q
open Go.RowKit Go.Proofs.YtbelnopbggkdfaaW.PrintWords Go.Proofs.YtbelnopbggkdfaaW.PrintLast Go.Proofs.YtbelnopbggkdfaaW.PrintMore
def mk (M : List Bool) (w : Int) : Bool := rdOf false M w
theorem mk_set {M : List Bool} {x w : Int} {v : Bool} (hx0 : 0 ≤ x) (hx1 : x.toNat < M.length) (hw : 0 ≤ w) : mk (M.set x.toNat v) w = if w = x then v else mk M w := by
  unfold mk rdOf
  rw [List.getD_eq_getElem?_getD, List.getD_eq_getElem?_getD, List.getElem?_set]
  by_cases e : w = x
  · subst e
    rw [if_pos rfl, if_pos rfl, if_pos hx1]
    rfl
  · rw [if_neg e, if_neg (by omega)]
theorem setM_lenE : ∀ (ws : List Int) (M : List Bool), (setM M ws).length = M.length
  | [], M => rfl
  | w :: ws, M => by show (setM (M.set w.toNat true) ws).length = _; rw [setM_lenE ws]; simp
theorem mk_setM : ∀ (ws : List Int) (M : List Bool), M.length = 128 → (∀ w ∈ ws, 0 ≤ w ∧ w < 128) → ∀ w, 0 ≤ w → (mk (setM M ws) w = true ↔ w ∈ ws ∨ mk M w = true)
  | [], M, _, _, w, _ => by simp [setM]
  | x :: ws, M, hl, hws, w, hw => by
    show mk (setM (M.set x.toNat true) ws) w = true ↔ _
    have hx := hws x (by simp)
    rw [mk_setM ws _ (by simp [hl]) (fun y hy => hws y (by simp [hy])) w hw, mk_set hx.1 (by omega) hw]
    by_cases h2 : w = x
    · simp [h2]
    · simp [h2]
theorem anyM_iff {M : List Bool} {ws : List Int} : anyM M ws = true ↔ ∃ w, w ∈ ws ∧ mk M w = true := by
  unfold anyM mk
  simp only [List.any_eq_true]
theorem mark_ok {n : Int} (hn : n ≤ 64) : ∀ (qs : List Int) (M : List Bool), M.length = 128 → (∀ x ∈ qs, 0 ≤ x ∧ x < n ∧ mk M x = false) → qs.Nodup →
    ∃ M', cone_mark n qs M = some M' ∧ M'.length = 128 ∧ ∀ w : Int, 0 ≤ w → (mk M' w = true ↔ w ∈ qs ∨ mk M w = true)
  | [], M, hl, _, _ => ⟨M, rfl, hl, fun w _ => by simp⟩
  | q :: qs, M, hl, h, hd => by
    have hq := h q (by simp)
    have hd' := List.nodup_cons.1 hd
    obtain ⟨M', m1, m2, m3⟩ := mark_ok hn qs (M.set q.toNat true) (by simp [hl]) (fun x hx => by
      have hx' := h x (by simp [hx])
      refine ⟨hx'.1, hx'.2.1, ?_⟩
      rw [mk_set hq.1 (by omega) hx'.1, if_neg (fun e => hd'.1 (by rw [← e]; exact hx))]
      exact hx'.2.2) hd'.2
    refine ⟨M', ?_, m2, fun w hw => ?_⟩
    · unfold cone_mark
      rw [if_neg (by
        have h3 : rdOf false M q = false := hq.2.2
        rw [h3]
        simp
        omega), m1]
    · rw [m3 w hw, mk_set hq.1 (by omega) hw]
      by_cases e : w = q
      · simp [e]
      · simp [e]
theorem mark_no {n : Int} (hn : n ≤ 64) : ∀ (qs : List Int) (M M' : List Bool), M.length = 128 → cone_mark n qs M = some M' → (∀ x ∈ qs, 0 ≤ x ∧ x < n ∧ mk M x = false) ∧ qs.Nodup
  | [], M, M', _, _ => ⟨by simp, List.nodup_nil⟩
  | q :: qs, M, M', hl, h => by
    unfold cone_mark at h
    split at h
    · cases h
    · rename_i hc
      simp only [not_or, Int.not_lt, Int.not_le, Bool.not_eq_true] at hc
      obtain ⟨i1, i2⟩ := mark_no hn qs _ M' (by simp [hl]) h
      refine ⟨fun x hx => ?_, List.nodup_cons.2 ⟨fun hx => ?_, i2⟩⟩
      · rcases List.mem_cons.1 hx with rfl | hx
        · exact ⟨hc.1, hc.2.1, hc.2.2⟩
        · have := i1 x hx
          refine ⟨this.1, this.2.1, ?_⟩
          have h3 := this.2.2
          rw [mk_set hc.1 (by omega) this.1] at h3
          split at h3
          · cases h3
          · exact h3
      · have := (i1 q hx).2.2
        rw [mk_set hc.1 (by omega) hc.1, if_pos rfl] at this
        cases this
theorem okB_of {zs : List Int} {n : Int} (h : ∀ x ∈ zs, 0 ≤ x ∧ x < n) (hd : zs.Nodup) : okB zs n = true := by
  refine okB_iff.2 fun i hi => ?_
  unfold okAt
  rw [List.getD_eq_getElem?_getD, List.getElem?_eq_getElem hi]
  have hm := h _ (List.getElem_mem hi)
  refine ⟨hm.1, hm.2, ?_⟩
  rw [Option.getD_some, ← Bool.not_eq_true, List.contains_iff_mem, List.mem_take_iff_getElem]
  rintro ⟨j, hj, e⟩
  have := (List.pairwise_iff_getElem.1 hd) j i (by omega) hi (by omega)
  exact this e
theorem mk_start (w : Int) : mk (List.replicate 128 false) w = false := by
  unfold mk rdOf
  rw [List.getD_eq_getElem?_getD, List.getElem?_replicate]
  split <;> rfl
theorem mark_is {q : Int} (hq : q ≤ 64) (qs : List Int) : (okB qs q = false ∧ cone_mark q qs (List.replicate 128 false) = none) ∨ (okB qs q = true ∧ qs.length ≤ 64 ∧ ∃ M, cone_mark q qs (List.replicate 128 false) = some M ∧ M.length = 128 ∧ ∀ w : Int, 0 ≤ w → (mk M w = true ↔ w ∈ qs)) := by
  cases h : okB qs q
  · refine .inl ⟨rfl, ?_⟩
    cases hm : cone_mark q qs (List.replicate 128 false) with
    | none => rfl
    | some M' =>
      obtain ⟨a, b⟩ := mark_no hq qs _ M' (by simp) hm
      rw [okB_of (fun x hx => ⟨(a x hx).1, (a x hx).2.1⟩) b] at h
      cases h
  · obtain ⟨a, b⟩ := okB_facts h
    obtain ⟨M, m1, m2, m3⟩ := mark_ok hq qs (List.replicate 128 false) (by simp) (fun x hx => ⟨(a x hx).1, (a x hx).2, mk_start x⟩) b
    exact .inr ⟨rfl, nodup_len 64 qs b fun x hx => by have := a x hx; omega, M, m1, m2, fun w hw => by rw [m3 w hw, mk_start]; simp⟩
def coneS (l : List Opn) : List Nat → List Bool → List Nat
  | [], _ => []
  | j :: js, M => if (at_ l j).f0 = 4 ∨ anyM M (wsF 64 (at_ l j)) = false then coneS l js M else j :: coneS l js (setM M (wsF 64 (at_ l j)))
theorem coneS_sub (l : List Opn) : ∀ (js : List Nat) (M : List Bool), (coneS l js M).Sublist js
  | [], _ => List.Sublist.slnil
  | j :: js, M => by
    unfold coneS
    split
    · exact (coneS_sub l js M).cons _
    · exact (coneS_sub l js _).cons_cons _
theorem cone_go_is {q b : Int} {l : List Opn} (h : CircF q b l) : ∀ (js : List Nat) (M : List Bool), (∀ j ∈ js, j < l.length) →
    cone_go (js.map fun (j : Nat) => ((j : Int), at_ l j)) M = some ((coneS l js M).map fun (j : Nat) => (j : Int))
  | [], M, _ => rfl
  | j :: js, M, hj => by
    have hjl := hj j (by simp)
    have oo : OpF q b (at_ l j) := by rw [at_get hjl]; exact h.op _ (List.getElem_mem _)
    have hj' : ∀ i ∈ js, i < l.length := fun i hi => hj i (by simp [hi])
    rw [List.map_cons]
    unfold cone_go coneS
    simp only
    rw [wires64 oo h.b1]
    simp only [Option.bind_some]
    rw [if_pos (wires_ok oo h.q1 h.b1)]
    split
    · exact cone_go_is h js M hj'
    · rw [cone_go_is h js _ hj']
      rfl
theorem sub_filter : ∀ {s m : List Nat}, s.Sublist m → m.Nodup → s = m.filter (fun x => s.contains x)
  | _, _, .slnil, _ => rfl
  | s, x :: m, .cons _ h, hd => by
    have hd' := List.nodup_cons.1 hd
    have hx : s.contains x = false := by
      rw [← Bool.not_eq_true, List.contains_iff_mem]
      exact fun hx => hd'.1 (h.subset hx)
    rw [List.filter_cons_of_neg (by rw [hx]; decide)]
    exact sub_filter h hd'.2
  | x :: s, _ :: m, .cons_cons _ h, hd => by
    have hd' := List.nodup_cons.1 hd
    rw [List.filter_cons_of_pos (by simp)]
    congr 1
    conv => lhs; rw [sub_filter h hd'.2]
    refine List.filter_congr fun y hy => ?_
    have : y ≠ x := fun e => hd'.1 (e ▸ hy)
    rw [List.contains_cons, beq_eq_false_iff_ne.2 this, Bool.false_or]
theorem meet_marks {q b : Int} {o : Opn} (h : OpF q b o) (hq : q ≤ 64) (hb : b ≤ 64) {M : List Bool} {xs : List Int} (hM : ∀ w : Int, 0 ≤ w → w < 128 → (mk M w = true ↔ up36 w ∈ xs)) : meetS xs (wsF 100 o) = anyM M (wsF 64 o) := by
  rw [Bool.eq_iff_iff, anyM_iff]
  unfold meetS
  simp only [List.any_eq_true, List.contains_iff_mem]
  constructor
  · rintro ⟨y, h1, h2⟩
    obtain ⟨x, hx, rfl, hx0, hx1⟩ := ws_down h hq hb h2
    exact ⟨x, hx, (hM x hx0 hx1).2 h1⟩
  · rintro ⟨x, h1, h2⟩
    obtain ⟨hx0, hx1⟩ := ws_range h hq hb h1
    exact ⟨up36 x, (hM x hx0 hx1).1 h2, (ws_up h hq hx0 hx1).2 h1⟩
def flags (F : List Bool) (s : List Nat) : List Bool := s.foldl (fun F j => F.set j true) F
theorem flags_at : ∀ (s : List Nat) (F : List Bool) (j : Nat), j < F.length → ((flags F s).getD j false = true ↔ j ∈ s ∨ F.getD j false = true)
  | [], F, j, _ => by simp [flags]
  | x :: s, F, j, hj => by
    show (flags (F.set x true) s).getD j false = true ↔ _
    rw [flags_at s _ j (by simpa using hj)]
    rw [List.getD_eq_getElem?_getD, List.getD_eq_getElem?_getD, List.getElem?_set]
    by_cases e : x = j
    · subst e; simp [hj]
    · rw [if_neg e]
      simp [Ne.symm e]
/-- The k-th operation that is looked at. -/
def lookAt (n : Nat) (back : Bool) (p : Nat) : Nat := if back = true then n - 1 - p else p
theorem rcone_l1 {F : List Bool} (hn : F.length ≤ 100000) : ∀ (d i : Nat) (out : List Int), F.length - i = d → i ≤ F.length → out.length ≤ i →
    Evt fun k => phasorref19_cone.l1 k F out (i : Int) = some (out ++ ((List.range' i (F.length - i)).filter fun j => F.getD j false).map (fun (j : Nat) => (j : Int)), 0)
  | 0, i, out, hd, hi, ho => by
    refine (Evt.all (p := fun _ => True) fun _ => trivial).succ fun k _ => ?_
    unfold phasorref19_cone.l1
    rw [if_neg (by omega), hd]
    simp
  | d + 1, i, out, hd, hi, ho => by
    have hil : i < F.length := by omega
    have e : List.range' i (F.length - i) = i :: List.range' (i + 1) (F.length - (i + 1)) := by
      rw [show F.length - i = (F.length - (i + 1)) + 1 by omega, List.range'_succ]
    have er : rdOf false F (i : Int) = F.getD i false := by simp [rdOf]
    by_cases c : F.getD i false = true
    · refine (rcone_l1 hn d (i + 1) (out ++ [(i : Int)]) (by omega) (by omega) (by simp; omega)).succ fun k hk => ?_
      unfold phasorref19_cone.l1
      rw [if_pos (by omega), if_pos (by omega), er, if_pos c, if_pos (by omega), w64 (by omega) (by omega), show (i : Int) + 1 = ((i + 1 : Nat) : Int) by omega, hk, e, List.filter_cons_of_pos (p := fun j => F.getD j false) c]
      simp
    · refine (rcone_l1 hn d (i + 1) out (by omega) (by omega) (by omega)).succ fun k hk => ?_
      unfold phasorref19_cone.l1
      rw [if_pos (by omega), if_pos (by omega), er, if_neg c, w64 (by omega) (by omega), show (i : Int) + 1 = ((i + 1 : Nat) : Int) by omega, hk, e, List.filter_cons_of_neg (p := fun j => F.getD j false) (by simpa using c)]
theorem rcone_l0 {q b : Int} {l : List Opn} (h : CircF q b l) (back : Bool) : ∀ (d p : Nat) (xs : List Int) (F M : List Bool), l.length - p = d → p ≤ l.length → F.length = l.length → M.length = 128 → xs.length ≤ 64 + 66 * p →
    (∀ w : Int, 0 ≤ w → w < 128 → (mk M w = true ↔ up36 w ∈ xs)) →
    Evt fun k => phasorref19_cone.l0 k back xs F (p : Int) q b l = some (((List.range l.length).filter fun j => (flags F (coneS l ((List.range' p (l.length - p)).map (lookAt l.length back)) M)).getD j false).map (fun (j : Nat) => (j : Int)), 0)
  | 0, p, xs, F, M, hd, hp, hF, hM, hx, hI => by
    have hn := h.n
    refine (rcone_l1 (F := F) (by omega) F.length 0 [] (by omega) (by omega) (by simp)).succ fun k hk => ?_
    unfold phasorref19_cone.l0
    rw [if_neg (by omega), hd]
    rw [show ((0 : Nat) : Int) = 0 from rfl] at hk
    rw [hk, hF]
    simp [coneS, flags, List.range_eq_range']
  | d + 1, p, xs, F, M, hd, hp, hF, hM, hx, hI => by
    have hn := h.n
    obtain ⟨j, hj⟩ : ∃ j, j = lookAt l.length back p := ⟨_, rfl⟩
    have hjl : j < l.length := by rw [hj]; unfold lookAt; split <;> omega
    have oo : OpF q b (at_ l j) := by rw [at_get hjl]; exact h.op _ (List.getElem_mem _)
    have e : (List.range' p (l.length - p)).map (lookAt l.length back) = j :: (List.range' (p + 1) (l.length - (p + 1))).map (lookAt l.length back) := by
      rw [show l.length - p = (l.length - (p + 1)) + 1 by omega, List.range'_succ, List.map_cons, hj]
    have hwl := ws_len 100 oo
    have hms := meet_marks oo h.q1 h.b1 hI
    have hrng : ∀ w ∈ wsF 64 (at_ l j), 0 ≤ w ∧ w < 128 := fun w hw => ws_range oo h.q1 h.b1 hw
    have body : ∀ {R : List Int × Int}, (Evt fun k => (if (at_ l j).f0 = 4 then phasorref19_cone.l0 k back xs F ((p + 1 : Nat) : Int) q b l else if anyM M (wsF 64 (at_ l j)) = true then phasorref19_cone.l0 k back (xs ++ wsF 100 (at_ l j)) (F.set j true) ((p + 1 : Nat) : Int) q b l else phasorref19_cone.l0 k back xs F ((p + 1 : Nat) : Int) q b l) = some R) →
        Evt fun k => phasorref19_cone.l0 k back xs F (p : Int) q b l = some R := fun {R} hR => by
      have hmeet := meet_is xs (wsF 100 (at_ l j)) (by omega) (by omega)
      have h1 : Evt fun k => phasorref19_cone.j1 k back xs F (p : Int) (j : Int) q b l = some R := (hR.and hmeet).succ fun k ⟨k1, k2⟩ => by
        have hbar := bar_is (q := q) (b := b) hjl
        unfold phasorref19_cone.j1
        rw [if_pos (by omega), if_pos (by omega), rdT_nat hjl, ← at_get hjl, wires100 oo h.b1]
        simp only [Option.bind_some]
        rw [hbar]
        simp only [Option.bind_some]
        rw [← at_get hjl, w64 (x := (p : Int) + 1) (by omega) (by omega), show (p : Int) + 1 = ((p + 1 : Nat) : Int) by omega]
        by_cases c4 : (at_ l j).f0 = 4
        · rw [if_pos c4] at k1
          rw [if_pos (beq_iff_eq.2 c4), k1]
        · rw [if_neg c4] at k1
          rw [if_neg (by simpa using c4), k2]
          simp only [Option.bind_some]
          rw [hms]
          by_cases cm : anyM M (wsF 64 (at_ l j)) = true
          · rw [if_pos cm] at k1
            rw [if_pos cm, if_pos (by omega), if_pos (by omega), Int.toNat_natCast, k1]
          · rw [if_neg cm] at k1
            rw [if_neg cm, k1]
      refine h1.succ fun k hk => ?_
      unfold phasorref19_cone.l0
      rw [if_pos (by omega)]
      cases back
      · rw [if_neg (by decide)]
        have : (j : Int) = p := by rw [hj]; simp [lookAt]
        rw [this] at hk
        exact hk
      · rw [if_pos rfl, w64 (x := (l.length : Int) - 1) (by omega) (by omega), w64 (by omega) (by omega)]
        have : (j : Int) = (l.length : Int) - 1 - p := by rw [hj]; simp only [lookAt, if_true]; omega
        rw [this] at hk
        exact hk
    rw [e]
    by_cases c4 : (at_ l j).f0 = 4
    · have ih := rcone_l0 h back d (p + 1) xs F M (by omega) (by omega) hF hM (by omega) hI
      unfold coneS
      rw [if_pos (.inl c4)]
      refine body (ih.mono fun k hk => ?_)
      rw [if_pos c4, hk]
    · by_cases cm : anyM M (wsF 64 (at_ l j)) = true
      · have ih := rcone_l0 h back d (p + 1) (xs ++ wsF 100 (at_ l j)) (F.set j true) (setM M (wsF 64 (at_ l j))) (by omega) (by omega) (by simpa using hF) (by rw [setM_lenE]; exact hM) (by rw [List.length_append]; omega) (fun w h0 h1 => by
          rw [mk_setM _ _ hM hrng w h0, List.mem_append, ws_up oo h.q1 h0 h1, hI w h0 h1]
          exact Or.comm)
        unfold coneS
        rw [if_neg (by rw [cm]; simpa using c4)]
        refine body (ih.mono fun k hk => ?_)
        rw [if_neg c4, if_pos cm, hk]
        rfl
      · have ih := rcone_l0 h back d (p + 1) xs F M (by omega) (by omega) hF hM (by omega) hI
        rw [Bool.not_eq_true] at cm
        unfold coneS
        rw [if_pos (.inr cm)]
        refine body (ih.mono fun k hk => ?_)
        rw [if_neg c4, cm, if_neg (by decide), hk]
theorem nth_setN {x : List Int} {i j : Nat} {v : Int} (h : i < x.length) : nth (x.set i v) j = if j = i then v else nth x j := by
  unfold nth
  rw [List.getD_eq_getElem?_getD, List.getD_eq_getElem?_getD, List.getElem?_set]
  by_cases e : j = i
  · subst e; rw [if_pos rfl, if_pos rfl, if_pos h]; rfl
  · rw [if_neg e, if_neg (Ne.symm e)]
theorem rev_l0 {n : Nat} (hn : n ≤ 100000) : ∀ (d i : Nat) (j : Int) (x : List Int), ((j + 1 - i).toNat ≤ d) → x.length = n → (i : Int) + j = n - 1 → -1 ≤ j → i ≤ n →
    ∃ y, y.length = n ∧ (∀ p : Nat, p < n → nth y p = if (i : Int) ≤ p ∧ (p : Int) ≤ j then nth x (n - 1 - p) else nth x p) ∧ Evt fun k => slices_Reverse_int_int.l0 k x (i : Int) j = some y
  | 0, i, j, x, hd, hl, hij, hj, hi => by
    refine ⟨x, hl, fun p hp => ?_, (Evt.all (p := fun _ => True) fun _ => trivial).succ fun k _ => ?_⟩
    · rw [if_neg (by omega)]
    · unfold slices_Reverse_int_int.l0
      rw [if_neg (by omega)]
  | d + 1, i, j, x, hd, hl, hij, hj, hi => by
    by_cases c : (i : Int) < j
    · obtain ⟨y, y1, y2, y3⟩ := rev_l0 hn d (i + 1) (j - 1) ((x.set i (rd x j)).set j.toNat (rd x i)) (by omega) (by simpa using hl) (by omega) (by omega) (by omega)
      refine ⟨y, y1, fun p hp => ?_, y3.succ fun k hk => ?_⟩
      · rw [y2 p hp]
        have ej : rd x j = nth x j.toNat := by
          have := rd_nth x j.toNat
          rwa [show ((j.toNat : Nat) : Int) = j by omega] at this
        rw [nth_setN (by simp; omega), nth_setN (by omega), nth_setN (by simp; omega), nth_setN (by omega), rd_nth, ej]
        by_cases c1 : p = i
        · subst c1
          rw [if_neg (by omega), if_neg (by omega), if_pos rfl, if_pos (by omega)]
          congr 1; omega
        · by_cases c2 : p = j.toNat
          · rw [if_neg (by omega), if_pos c2, if_pos (by omega)]
            congr 1; omega
          · by_cases c3 : (i : Int) ≤ p ∧ (p : Int) ≤ j
            · rw [if_pos (by omega), if_neg (by omega), if_neg (by omega), if_pos c3]
            · rw [if_neg (by omega), if_neg c2, if_neg c1, if_neg c3]
      · unfold slices_Reverse_int_int.l0
        rw [if_pos c, if_pos (by omega), if_pos (by omega), if_pos (by omega), if_pos (by omega), Int.toNat_natCast, w64 (by omega) (by omega), w64 (by omega) (by omega), show (i : Int) + 1 = ((i + 1 : Nat) : Int) by omega, hk]
    · refine ⟨x, hl, fun p hp => ?_, (Evt.all (p := fun _ => True) fun _ => trivial).succ fun k _ => ?_⟩
      · split
        · congr 1; omega
        · rfl
      · unfold slices_Reverse_int_int.l0
        rw [if_neg c]
theorem reverse_is {x : List Int} (hn : x.length ≤ 100000) : Evt fun k => slices_Reverse_int_int.f k x = some x.reverse := by
  obtain ⟨y, y1, y2, y3⟩ := rev_l0 hn x.length 0 ((x.length : Int) - 1) x (by omega) rfl (by omega) (by omega) (by omega)
  have e : y = x.reverse := List.ext_getElem (by simp [y1]) fun p h1 h2 => by
    have := y2 p (by omega)
    rw [if_pos (by omega), nth_get h1, nth_get (by omega)] at this
    rw [this, List.getElem_reverse]
  subst e
  refine y3.mono fun k hk => ?_
  unfold slices_Reverse_int_int.f
  rw [w64 (by omega) (by omega)]
  exact hk
theorem cone_no {q b : Int} {l : List Opn} {qs : List Int} (back : Bool) (hw : WfL l) (h : okc q b l = false) : Evt fun k => layers_cone.f k q b l qs back = some ([], 80) ∧ phasorref19_cone.f k q b l qs back = some ([], 80) :=
  ((checked_is (q := q) (b := b) hw).and (may_is (q := q) (b := b) hw)).mono fun k ⟨h1, h2⟩ => by
    unfold layers_cone.f phasorref19_cone.f
    rw [h1, h2, h]
    exact ⟨rfl, rfl⟩
theorem cone_is {q b : Int} {l : List Opn} {qs : List Int} (back : Bool) (hw : WfL l) (h : CircF q b l) : ∃ r e, r.length ≤ 4096 ∧ (∀ x ∈ r, 0 ≤ x ∧ x < (l.length : Int)) ∧ (e = 0 ∨ r = []) ∧ Evt fun k => layers_cone.f k q b l qs back = some (r, e) ∧ phasorref19_cone.f k q b l qs back = some (r, e) := by
  have hn := h.n
  have hq1 := h.q1
  have hb2 : q ≤ 128 ∧ l.length < 2199023255552 := ⟨by omega, by omega⟩
  have hc := checked_is (q := q) (b := b) hw
  have hm := may_is (q := q) (b := b) hw
  rw [h.okc] at hc hm
  rcases mark_is h.q1 qs with ⟨ho, hmk⟩ | ⟨ho, hql, M, m1, m2, m3⟩
  · refine ⟨[], 190, by simp, by simp, .inr rfl, (hc.and hm).mono fun k ⟨h1, h2⟩ => ?_⟩
    unfold layers_cone.f phasorref19_cone.f phasorref07_Qubits.f
    rw [h1, h2, ho]
    simp only [Option.bind_some]
    refine ⟨?_, rfl⟩
    rw [if_pos trivial, if_pos hb2, hmk]
    rfl
  · obtain ⟨js, hjs⟩ : ∃ js, js = (List.range l.length).map (lookAt l.length back) := ⟨_, rfl⟩
    have hjl : ∀ j ∈ js, j < l.length := fun j hj => by
      rw [hjs] at hj
      obtain ⟨p, hp, rfl⟩ := List.mem_map.1 hj
      have := List.mem_range.1 hp
      unfold lookAt
      split <;> omega
    have hgo := cone_go_is h js M hjl
    have hlist : cone_list back l = js.map fun (j : Nat) => ((j : Int), at_ l j) := by
      rw [hjs]
      unfold cone_list
      rw [List.map_map]
      refine List.map_congr_left fun i hi => ?_
      have := List.mem_range.1 hi
      unfold lookAt
      simp only [Function.comp]
      cases back
      · simp [rd_T46, at_]
      · have e : ((l.length : Int) - 1 - i) = ((l.length - 1 - i : Nat) : Int) := by omega
        simp only [if_true]
        rw [e]
        simp [rd_T46, at_]
    have hsub := coneS_sub l js M
    have hr0 := rcone_l0 h back l.length 0 qs (List.replicate l.length false) M (by omega) (by omega) (by simp) m2 (by omega) (fun w h0 h1 => by
      rw [m3 w h0]
      unfold up36
      have hr := (okB_facts ho).1
      split
      · exact Iff.rfl
      · constructor
        · intro hw; have := hr w hw; omega
        · intro hw; have := hr _ hw; omega)
    have hjs2 : (List.range' 0 (l.length - 0)).map (lookAt l.length back) = js := by rw [hjs, Nat.sub_zero, List.range_eq_range']
    rw [hjs2] at hr0
    have hflag : ((List.range l.length).filter fun j => (flags (List.replicate l.length false) (coneS l js M)).getD j false) = (List.range l.length).filter fun j => (coneS l js M).contains j := by
      refine List.filter_congr fun j hj => ?_
      have hj' := List.mem_range.1 hj
      rw [Bool.eq_iff_iff, flags_at _ _ _ (by simpa using hj'), List.contains_iff_mem]
      simp [hj']
    rw [hflag] at hr0
    obtain ⟨r, hr⟩ : ∃ r, r = ((List.range l.length).filter fun j => (coneS l js M).contains j).map (fun (j : Nat) => (j : Int)) := ⟨_, rfl⟩
    rw [← hr] at hr0
    have hrl : r.length ≤ l.length := by
      rw [hr, List.length_map]
      exact Nat.le_trans (List.length_filter_le _ _) (by simp)
    have hrr : ∀ x ∈ r, 0 ≤ x ∧ x < (l.length : Int) := fun x hx => by
      rw [hr] at hx
      obtain ⟨j, hj, rfl⟩ := List.mem_map.1 hx
      have := List.mem_range.1 (List.mem_filter.1 hj).1
      omega
    have hlay : Evt fun k => cone_end k l back M = some (r, 0) := by
      cases back
      · have e0 : js = List.range l.length := by
          rw [hjs]
          conv => rhs; rw [← List.map_id (List.range l.length)]
          exact List.map_congr_left fun p _ => rfl
        refine Evt.all fun k => ?_
        unfold cone_end
        rw [hlist, hgo]
        simp only [Option.bind_some]
        rw [if_neg (by decide), hr]
        congr 2
        rw [e0] at hsub ⊢
        conv => lhs; rw [sub_filter hsub List.nodup_range]
      · have e0 : js.reverse = List.range l.length := by
          rw [hjs]
          refine List.ext_getElem (by simp) fun p h1 h2 => ?_
          simp only [List.getElem_reverse, List.getElem_map, List.getElem_range, lookAt, if_true, List.length_map, List.length_range]
          simp at h2
          omega
        have hsl := hsub.length_le
        rw [show js.length = l.length by rw [hjs]; simp] at hsl
        refine (reverse_is (x := (coneS l js M).map fun (j : Nat) => (j : Int)) (by simp; omega)).mono fun k hk => ?_
        unfold cone_end
        rw [hlist, hgo]
        simp only [Option.bind_some]
        rw [if_pos trivial, hk, hr]
        simp only [Option.bind_some, Option.some.injEq, Prod.mk.injEq, and_true]
        rw [← List.map_reverse]
        congr 1
        have hs2 : (coneS l js M).reverse.Sublist (List.range l.length) := by rw [← e0]; exact hsub.reverse
        conv => lhs; rw [sub_filter hs2 List.nodup_range]
        refine List.filter_congr fun j _ => ?_
        rw [Bool.eq_iff_iff, List.contains_iff_mem, List.contains_iff_mem, List.mem_reverse]
    refine ⟨r, 0, by omega, hrr, .inl rfl, (((hc.and hm).and hlay).and hr0).mono fun k ⟨⟨⟨h1, h2⟩, h3⟩, h4⟩ => ?_⟩
    unfold layers_cone.f phasorref19_cone.f phasorref07_Qubits.f
    rw [h1, h2, ho]
    simp only [Option.bind_some]
    rw [if_pos trivial, if_pos hb2, m1]
    refine ⟨h3, ?_⟩
    rw [if_pos trivial, if_pos trivial, if_pos (by simp; omega), if_pos (by omega), if_pos (by omega), Int.toNat_natCast, List.nil_append]
    exact h4
end Go.Proofs.Ytbelnopbggkdfaa.Q
end

section
namespace Go.Proofs.Ytbelnopbggkdfaa
open Go.RowKit Go.Proofs.YtbelnopbggkdfaaW.PrintWords Go.Proofs.YtbelnopbggkdfaaW.PrintLast Q
set_option maxRecDepth 100000 in
/-- A gate of the statements: of whatever qubits. -/
theorem g_any (k : Int) (A : Option Addr) (n c : Nat) (w : World) : Calls Try.prog 59 #[.int .i64 k, .slice A n c] w fun e w' => e = .returned (.agg #[.int .i64 1, .int .i64 k, .slice A n c, .int .i64 0, .int .i64 (-1), .int .i64 0]) ∧ Below w.heap.size w w' := by
  have hu46 := Try.underlying46
  go_enter Try.func59, Try.ntmps59
  go_wp2
  refine bodyPost_ret (results_cell_row rfl _ _ w.heap.size 46 #[.int .i64 1, .int .i64 k, .slice A n c, .int .i64 0, .int .i64 (-1), .int .i64 0] (0, 0) _ rfl (by first | exact blk_new w _ | (simp; done)) Try.underlying46 rfl (by kernel_rfl)) rfl ?_
  exact ⟨rfl, by first | exact below_alloc (Below.refl _ _) _ | skip⟩
def exOps : List S46 := [⟨1, 2, [0], 0, -1, 0⟩, ⟨1, 11, [0, 1], 0, -1, 0⟩, ⟨1, 2, [2], 0, -1, 0⟩, ⟨4, 0, [1, 2], 0, -1, 0⟩, ⟨1, 2, [2], 0, -1, 0⟩]
/-- A row of whole numbers, known as a block from B on. -/
def RowC (B : Nat) (w : World) (v : Value) (l : List Int) : Prop := ∃ g, v = .slice (some ⟨g, 0, none⟩) l.length l.length ∧ B ≤ g ∧ w.heap[g]? = some (.cells (l.map (Value.int .i64)).toArray 3 (0, 0))
theorem RowC.below {B : Nat} {w w' : World} {v : Value} {l : List Int} (h : RowC B w v l) (hb : Below w.heap.size w w') : RowC B w' v l := by
  obtain ⟨g, h1, h2, h3⟩ := h
  exact ⟨g, h1, h2, blk_below h3 hb⟩
theorem rowC_reads {w : World} {y : Nat} {l : List Int} (h : w.heap[y]? = some (.cells (l.map (Value.int .i64)).toArray 3 (0, 0))) (hl : l.length ≤ 9223372036854775807) : Kd.C (Kd.int .i64) w (some ⟨y, 0, none⟩) l.length l :=
  Kd.C_of_reads (enc := Value.int .i64) (d := (0 : Int)) (h1 := fun _ => rfl) ⟨rfl, hl, fun _ => ⟨_, rfl, fun j hj => by
    rw [add_plain, blk_cell h]
    simp [List.getD_eq_getElem?_getD, List.getElem?_eq_getElem hj]⟩⟩
set_option linter.unusedVariables false
abbrev gAgg (k : Int) (v : Value) : Value := .agg #[.int .i64 1, .int .i64 k, v, .int .i64 0, .int .i64 (-1), .int .i64 0]
abbrev barAgg (v : Value) : Value := .agg #[.int .i64 4, .int .i64 0, v, .int .i64 0, .int .i64 (-1), .int .i64 0]
def exCells (v4 v6 v8 vb v11 : Value) : List Value :=
  [.int .i64 1, .int .i64 2, v4, .int .i64 0, .int .i64 (-1), .int .i64 0, .int .i64 1, .int .i64 11, v6, .int .i64 0, .int .i64 (-1), .int .i64 0, .int .i64 1, .int .i64 2, v8, .int .i64 0, .int .i64 (-1), .int .i64 0,
   .int .i64 4, .int .i64 0, vb, .int .i64 0, .int .i64 (-1), .int .i64 0, .int .i64 1, .int .i64 2, v11, .int .i64 0, .int .i64 (-1), .int .i64 0]
def exL (v4 v5 v6 v7 v8 v9 v10 v11 v12 v13 v14 : Value) : List (Nat × Tmp × Value) := [(0, 4, v4), (1, 5, v5), (2, 6, v6), (3, 7, v7), (4, 8, v8), (5, 9, v9), (6, 10, v10), (7, 11, v11), (8, 12, v12), (9, 13, v13), (10, 14, v14)]
/-- What is known while the region goes on. -/
structure ExF (W0 : World) (vb : Value) (b : Nat → Bool) (w : World) (v4 v5 v6 v7 v8 v9 v10 v11 v12 v13 v14 : Value) : Prop where
  hb : Below W0.heap.size W0 w
  h0 : b 0 = true → RowC W0.heap.size w v4 [0]
  h1 : b 1 = true → v5 = gAgg 2 v4
  h2 : b 2 = true → RowC W0.heap.size w v6 [0, 1]
  h3 : b 3 = true → v7 = gAgg 11 v6
  h4 : b 4 = true → RowC W0.heap.size w v8 [2]
  h5 : b 5 = true → v9 = gAgg 2 v8
  h6 : b 6 = true → v10 = barAgg vb
  h7 : b 7 = true → RowC W0.heap.size w v11 [2]
  h8 : b 8 = true → v12 = gAgg 2 v11
  h9 : b 9 = true → ∃ g, v13 = .slice (some ⟨g, 0, none⟩) 5 5 ∧ W0.heap.size ≤ g ∧ w.heap[g]? = some (.cells (exCells v4 v6 v8 vb v11).toArray 46 (0, 0))
  h10 : b 10 = true → v14 = .agg #[.int .i64 3, .int .i64 0, v13]
theorem ExF.below {W0 w w1 : World} {vb : Value} {b : Nat → Bool} {v4 v5 v6 v7 v8 v9 v10 v11 v12 v13 v14 : Value} (h : ExF W0 vb b w v4 v5 v6 v7 v8 v9 v10 v11 v12 v13 v14) (hb : Below w.heap.size w w1) : ExF W0 vb b w1 v4 v5 v6 v7 v8 v9 v10 v11 v12 v13 v14 :=
  ⟨below_step h.hb hb, fun e => (h.h0 e).below hb, h.h1, fun e => (h.h2 e).below hb, h.h3, fun e => (h.h4 e).below hb, h.h5, h.h6, fun e => (h.h7 e).below hb, h.h8, fun e => by
    obtain ⟨g, h1, h2, h3⟩ := h.h9 e
    exact ⟨g, h1, h2, blk_below h3 hb⟩, h.h10⟩
/-- What is told in the end. -/
def ExDone (W0 : World) (vb : Value) (g0 : Nat) (w : World) (v4 v5 v6 v7 v8 v9 v10 v11 v12 v13 v14 : Value) : Prop :=
  ∃ w1, ExF W0 vb (fun _ => true) w1 v4 v5 v6 v7 v8 v9 v10 v11 v12 v13 v14 ∧ w = ((w1.setCell ⟨g0, 0, none⟩ (.int .i64 3)).setCell ⟨g0, 1, none⟩ (.int .i64 0)).setCell ⟨g0, 2, none⟩ v13
def ExI (a0 : Act) (W0 : World) (vb : Value) (g0 : Nat) (b : Nat → Bool) (a : Act) (w : World) : Prop :=
  ∃ v4 v5 v6 v7 v8 v9 v10 v11 v12 v13 v14, a = putSel a0 b (exL v4 v5 v6 v7 v8 v9 v10 v11 v12 v13 v14) ∧ (b 11 = false → ExF W0 vb b w v4 v5 v6 v7 v8 v9 v10 v11 v12 v13 v14) ∧ (b 11 = true → ExDone W0 vb g0 w v4 v5 v6 v7 v8 v9 v10 v11 v12 v13 v14)
def exT : Bool × List (List Nat × List Nat) := (true, [([], []), ([0], [0]), ([], []), ([2, 1], [2]), ([], []), ([4, 3], [4]), ([], []), ([], []), ([7, 5], [7]), ([1, 3, 5, 6, 8], [1, 3, 5, 6, 8]), ([9], [9]), ([10, 8, 0, 1, 2, 3, 4, 5, 6, 7, 8, 9, 10], [10])])
def exB : List Nat := [0, 1, 0, 7, 0, 31, 0, 0, 191, 511, 1023, 2047]
theorem ex_tab : rtab .any (opsOf Try.f65 2) = exT := by kernel_rfl
theorem ex_bits : waitsOk exT.2 exB = true := by kernel_rfl
def exO : List Nat := [0, 1, 2, 3, 4, 5, 6, 7, 8, 9, 10, 11]
theorem ex_base : baseOk exT.2 exO = true := by kernel_rfl
theorem ex_not11 {b : Nat → Bool} {i : Nat} (h : ∀ d, (exO.contains d && (exB.getD d 0).testBit i) = true → b d = false) (hi : (2047 : Nat).testBit i = true) : b 11 = false := h 11 (by simp [exO, exB, hi])
theorem wanted_none {o : Oper} {b : Nat → Option Bool} (h : o.guard = none) : Region.wanted o b = true := by simp [Region.wanted, h]
theorem ex_op0 : ∃ oi, (opsOf Try.f65 2)[0]? = some oi ∧ oi.dst = some 4 ∧ oi.op = .buildSlice 37 1 #[(0, .const (.int .i64 0))] ∧ oi.guard = none := ⟨_, rfl, by kernel_rfl, by kernel_rfl, by kernel_rfl⟩
theorem ex_op1 : ∃ oi, (opsOf Try.f65 2)[1]? = some oi ∧ oi.dst = some 5 ∧ oi.op = .call { callee := .value (.func 59), args := #[.const (.int .i64 2), .tmp 4], argTypes := #[44, 37] } ∧ oi.guard = none := ⟨_, rfl, by kernel_rfl, by kernel_rfl, by kernel_rfl⟩
theorem ex_op2 : ∃ oi, (opsOf Try.f65 2)[2]? = some oi ∧ oi.dst = some 6 ∧ oi.op = .buildSlice 37 2 #[(0, .const (.int .i64 0)), (1, .const (.int .i64 1))] ∧ oi.guard = none := ⟨_, rfl, by kernel_rfl, by kernel_rfl, by kernel_rfl⟩
theorem ex_op3 : ∃ oi, (opsOf Try.f65 2)[3]? = some oi ∧ oi.dst = some 7 ∧ oi.op = .call { callee := .value (.func 59), args := #[.const (.int .i64 11), .tmp 6], argTypes := #[44, 37] } ∧ oi.guard = none := ⟨_, rfl, by kernel_rfl, by kernel_rfl, by kernel_rfl⟩
theorem ex_op4 : ∃ oi, (opsOf Try.f65 2)[4]? = some oi ∧ oi.dst = some 8 ∧ oi.op = .buildSlice 37 1 #[(0, .const (.int .i64 2))] ∧ oi.guard = none := ⟨_, rfl, by kernel_rfl, by kernel_rfl, by kernel_rfl⟩
theorem ex_op5 : ∃ oi, (opsOf Try.f65 2)[5]? = some oi ∧ oi.dst = some 9 ∧ oi.op = .call { callee := .value (.func 59), args := #[.const (.int .i64 2), .tmp 8], argTypes := #[44, 37] } ∧ oi.guard = none := ⟨_, rfl, by kernel_rfl, by kernel_rfl, by kernel_rfl⟩
theorem ex_op6 : ∃ oi, (opsOf Try.f65 2)[6]? = some oi ∧ oi.dst = some 10 ∧ oi.op = .load 46 (.tmp 1) ∧ oi.guard = none := ⟨_, rfl, by kernel_rfl, by kernel_rfl, by kernel_rfl⟩
theorem ex_op7 : ∃ oi, (opsOf Try.f65 2)[7]? = some oi ∧ oi.dst = some 11 ∧ oi.op = .buildSlice 37 1 #[(0, .const (.int .i64 2))] ∧ oi.guard = none := ⟨_, rfl, by kernel_rfl, by kernel_rfl, by kernel_rfl⟩
theorem ex_op8 : ∃ oi, (opsOf Try.f65 2)[8]? = some oi ∧ oi.dst = some 12 ∧ oi.op = .call { callee := .value (.func 59), args := #[.const (.int .i64 2), .tmp 11], argTypes := #[44, 37] } ∧ oi.guard = none := ⟨_, rfl, by kernel_rfl, by kernel_rfl, by kernel_rfl⟩
theorem ex_op9 : ∃ oi, (opsOf Try.f65 2)[9]? = some oi ∧ oi.dst = some 13 ∧ oi.op = .buildSlice 22 5 #[(0, .tmp 5), (1, .tmp 7), (2, .tmp 9), (3, .tmp 10), (4, .tmp 12)] ∧ oi.guard = none := ⟨_, rfl, by kernel_rfl, by kernel_rfl, by kernel_rfl⟩
theorem ex_op10 : ∃ oi, (opsOf Try.f65 2)[10]? = some oi ∧ oi.dst = some 14 ∧ oi.op = .build 24 #[(0, .const (.int .i64 3)), (2, .tmp 13)] ∧ oi.guard = none := ⟨_, rfl, by kernel_rfl, by kernel_rfl, by kernel_rfl⟩
theorem ex_op11 : ∃ oi, (opsOf Try.f65 2)[11]? = some oi ∧ oi.dst = none ∧ oi.op = .store 24 (.tmp 0) (.tmp 14) ∧ oi.guard = none := ⟨_, rfl, by kernel_rfl, by kernel_rfl, by kernel_rfl⟩
theorem ex_step0 {a0 : Act} {W0 : World} {vb : Value} {g0 gb gv : Nat} {Q : Exit → Act → World → Prop} (hs : a0.tmps.size = 15) (hs0 : a0.tmps[0]? = some (.pointer (some ⟨g0, 0, none⟩))) (hs1 : a0.tmps[1]? = some (.pointer (some ⟨gb, 0, none⟩))) (hg : W0.heap[gb]? = some (.cells #[.int .i64 4, .int .i64 0, vb, .int .i64 0, .int .i64 (-1), .int .i64 0] 46 (0, 0))) (hvb : vb = .slice (some ⟨gv, 0, none⟩) 2 2) :
    StepAt Try.prog (opsOf Try.f65 2) Q exB exO (ExI a0 W0 vb g0) 0 := by
  intro b a w hI hb hwait hnot
  have hb11 := ex_not11 hnot (by decide)
  obtain ⟨v4, v5, v6, v7, v8, v9, v10, v11, v12, v13, v14, rfl, hF, _⟩ := hI
  have hF := hF hb11
  obtain ⟨oi, hoi, hd, hop, hgd⟩ := ex_op0
  refine ⟨oi, hoi, fun K hK => ?_⟩
  refine event_step (v := (.slice (some ⟨w.heap.size, 0, none⟩) 1 1)) (w1 := (w.alloc (.cells #[.int .i64 0] 3))) (wanted_none hgd) ?_ ?_
  · unfold execOp; rw [hop]; go_simp
  · rw [hd, putSel_upk (L' := exL (.slice (some ⟨w.heap.size, 0, none⟩) 1 1) v5 v6 v7 v8 v9 v10 v11 v12 v13 v14) 0 hb rfl rfl rfl]
    refine hK _ _ ⟨(.slice (some ⟨w.heap.size, 0, none⟩) 1 1), v5, v6, v7, v8, v9, v10, v11, v12, v13, v14, rfl, fun _ => ?_, fun e => by rw [up_ne (by decide)] at e; rw [hb11] at e; cases e⟩
    have h := hF.below (below_alloc (Below.refl _ _) (.cells #[.int .i64 0] 3))
    exact ⟨h.hb, (fun _ => ⟨_, rfl, hF.hb.size, blk_new w _⟩), (fun e => by rw [up_ne (by decide), hnot 1 (by decide)] at e; cases e), (fun e => h.h2 (by rwa [up_ne (by decide)] at e)), (fun e => h.h3 (by rwa [up_ne (by decide)] at e)), (fun e => h.h4 (by rwa [up_ne (by decide)] at e)), (fun e => h.h5 (by rwa [up_ne (by decide)] at e)), (fun e => h.h6 (by rwa [up_ne (by decide)] at e)), (fun e => h.h7 (by rwa [up_ne (by decide)] at e)), (fun e => h.h8 (by rwa [up_ne (by decide)] at e)), (fun e => by rw [up_ne (by decide), hnot 9 (by decide)] at e; cases e), (fun e => h.h10 (by rwa [up_ne (by decide)] at e))⟩
theorem ex_step1 {a0 : Act} {W0 : World} {vb : Value} {g0 gb gv : Nat} {Q : Exit → Act → World → Prop} (hs : a0.tmps.size = 15) (hs0 : a0.tmps[0]? = some (.pointer (some ⟨g0, 0, none⟩))) (hs1 : a0.tmps[1]? = some (.pointer (some ⟨gb, 0, none⟩))) (hg : W0.heap[gb]? = some (.cells #[.int .i64 4, .int .i64 0, vb, .int .i64 0, .int .i64 (-1), .int .i64 0] 46 (0, 0))) (hvb : vb = .slice (some ⟨gv, 0, none⟩) 2 2) :
    StepAt Try.prog (opsOf Try.f65 2) Q exB exO (ExI a0 W0 vb g0) 1 := by
  intro b a w hI hb hwait hnot
  have hb11 := ex_not11 hnot (by decide)
  obtain ⟨v4, v5, v6, v7, v8, v9, v10, v11, v12, v13, v14, rfl, hF, _⟩ := hI
  have hF := hF hb11
  obtain ⟨oi, hoi, hd, hop, hgd⟩ := ex_op1
  have w0 : b 0 = true := hwait 0 (by decide)
  obtain ⟨y, z, _⟩ := hF.h0 w0
  refine ⟨oi, hoi, fun K hK => ?_⟩
  rw [hd]
  have tv := eval_of (putSel_on (a := a0) (b := b) (e := (0, 4, v4)) (L := exL v4 v5 v6 v7 v8 v9 v10 v11 v12 v13 v14) 0 rfl rfl w0 (by rw [hs]; rfl))
  have hfr := fun w => g_any 2 (some ⟨y, 0, none⟩) 1 1 w
  refine goes_ (N := some 5) Try.func59 (by kernel_rfl) rfl #[.int .i64 2, v4] (wanted_none hgd) hd hop (by simp only [List.map_toArray, List.map_cons, List.map_nil]; rw [tv]; rfl) ?_
  rw [show (v4 : Value) = .slice (some ⟨y, 0, none⟩) 1 1 from z]
  refine (hfr w).mono ?_
  rintro e w1 ⟨rfl, hbw⟩
  refine ⟨_, rfl, ?_⟩
  rw [← show (v4 : Value) = .slice (some ⟨y, 0, none⟩) 1 1 from z]
  rw [putSel_upk (L' := exL v4 (gAgg 2 v4) v6 v7 v8 v9 v10 v11 v12 v13 v14) 1 hb rfl rfl rfl]
  refine hK _ _ ⟨v4, (gAgg 2 v4), v6, v7, v8, v9, v10, v11, v12, v13, v14, rfl, fun _ => ?_, fun e => by rw [up_ne (by decide)] at e; rw [hb11] at e; cases e⟩
  have h := hF.below hbw
  exact ⟨h.hb, (fun e => h.h0 (by rwa [up_ne (by decide)] at e)), (fun _ => rfl), (fun e => h.h2 (by rwa [up_ne (by decide)] at e)), (fun e => h.h3 (by rwa [up_ne (by decide)] at e)), (fun e => h.h4 (by rwa [up_ne (by decide)] at e)), (fun e => h.h5 (by rwa [up_ne (by decide)] at e)), (fun e => h.h6 (by rwa [up_ne (by decide)] at e)), (fun e => h.h7 (by rwa [up_ne (by decide)] at e)), (fun e => h.h8 (by rwa [up_ne (by decide)] at e)), (fun e => h.h9 (by rwa [up_ne (by decide)] at e)), (fun e => h.h10 (by rwa [up_ne (by decide)] at e))⟩
theorem ex_step2 {a0 : Act} {W0 : World} {vb : Value} {g0 gb gv : Nat} {Q : Exit → Act → World → Prop} (hs : a0.tmps.size = 15) (hs0 : a0.tmps[0]? = some (.pointer (some ⟨g0, 0, none⟩))) (hs1 : a0.tmps[1]? = some (.pointer (some ⟨gb, 0, none⟩))) (hg : W0.heap[gb]? = some (.cells #[.int .i64 4, .int .i64 0, vb, .int .i64 0, .int .i64 (-1), .int .i64 0] 46 (0, 0))) (hvb : vb = .slice (some ⟨gv, 0, none⟩) 2 2) :
    StepAt Try.prog (opsOf Try.f65 2) Q exB exO (ExI a0 W0 vb g0) 2 := by
  intro b a w hI hb hwait hnot
  have hb11 := ex_not11 hnot (by decide)
  obtain ⟨v4, v5, v6, v7, v8, v9, v10, v11, v12, v13, v14, rfl, hF, _⟩ := hI
  have hF := hF hb11
  obtain ⟨oi, hoi, hd, hop, hgd⟩ := ex_op2
  refine ⟨oi, hoi, fun K hK => ?_⟩
  refine event_step (v := (.slice (some ⟨w.heap.size, 0, none⟩) 2 2)) (w1 := (w.alloc (.cells #[.int .i64 0, .int .i64 1] 3))) (wanted_none hgd) ?_ ?_
  · unfold execOp; rw [hop]; go_simp
  · rw [hd, putSel_upk (L' := exL v4 v5 (.slice (some ⟨w.heap.size, 0, none⟩) 2 2) v7 v8 v9 v10 v11 v12 v13 v14) 2 hb rfl rfl rfl]
    refine hK _ _ ⟨v4, v5, (.slice (some ⟨w.heap.size, 0, none⟩) 2 2), v7, v8, v9, v10, v11, v12, v13, v14, rfl, fun _ => ?_, fun e => by rw [up_ne (by decide)] at e; rw [hb11] at e; cases e⟩
    have h := hF.below (below_alloc (Below.refl _ _) (.cells #[.int .i64 0, .int .i64 1] 3))
    exact ⟨h.hb, (fun e => h.h0 (by rwa [up_ne (by decide)] at e)), (fun e => h.h1 (by rwa [up_ne (by decide)] at e)), (fun _ => ⟨_, rfl, hF.hb.size, blk_new w _⟩), (fun e => by rw [up_ne (by decide), hnot 3 (by decide)] at e; cases e), (fun e => h.h4 (by rwa [up_ne (by decide)] at e)), (fun e => h.h5 (by rwa [up_ne (by decide)] at e)), (fun e => h.h6 (by rwa [up_ne (by decide)] at e)), (fun e => h.h7 (by rwa [up_ne (by decide)] at e)), (fun e => h.h8 (by rwa [up_ne (by decide)] at e)), (fun e => by rw [up_ne (by decide), hnot 9 (by decide)] at e; cases e), (fun e => h.h10 (by rwa [up_ne (by decide)] at e))⟩
theorem ex_step3 {a0 : Act} {W0 : World} {vb : Value} {g0 gb gv : Nat} {Q : Exit → Act → World → Prop} (hs : a0.tmps.size = 15) (hs0 : a0.tmps[0]? = some (.pointer (some ⟨g0, 0, none⟩))) (hs1 : a0.tmps[1]? = some (.pointer (some ⟨gb, 0, none⟩))) (hg : W0.heap[gb]? = some (.cells #[.int .i64 4, .int .i64 0, vb, .int .i64 0, .int .i64 (-1), .int .i64 0] 46 (0, 0))) (hvb : vb = .slice (some ⟨gv, 0, none⟩) 2 2) :
    StepAt Try.prog (opsOf Try.f65 2) Q exB exO (ExI a0 W0 vb g0) 3 := by
  intro b a w hI hb hwait hnot
  have hb11 := ex_not11 hnot (by decide)
  obtain ⟨v4, v5, v6, v7, v8, v9, v10, v11, v12, v13, v14, rfl, hF, _⟩ := hI
  have hF := hF hb11
  obtain ⟨oi, hoi, hd, hop, hgd⟩ := ex_op3
  have w2 : b 2 = true := hwait 2 (by decide)
  obtain ⟨y, z, _⟩ := hF.h2 w2
  refine ⟨oi, hoi, fun K hK => ?_⟩
  rw [hd]
  have tv := eval_of (putSel_on (a := a0) (b := b) (e := (2, 6, v6)) (L := exL v4 v5 v6 v7 v8 v9 v10 v11 v12 v13 v14) 2 rfl rfl w2 (by rw [hs]; rfl))
  have hfr := fun w => g_any 11 (some ⟨y, 0, none⟩) 2 2 w
  refine goes_ (N := some 7) Try.func59 (by kernel_rfl) rfl #[.int .i64 11, v6] (wanted_none hgd) hd hop (by simp only [List.map_toArray, List.map_cons, List.map_nil]; rw [tv]; rfl) ?_
  rw [show (v6 : Value) = .slice (some ⟨y, 0, none⟩) 2 2 from z]
  refine (hfr w).mono ?_
  rintro e w1 ⟨rfl, hbw⟩
  refine ⟨_, rfl, ?_⟩
  rw [← show (v6 : Value) = .slice (some ⟨y, 0, none⟩) 2 2 from z]
  rw [putSel_upk (L' := exL v4 v5 v6 (gAgg 11 v6) v8 v9 v10 v11 v12 v13 v14) 3 hb rfl rfl rfl]
  refine hK _ _ ⟨v4, v5, v6, (gAgg 11 v6), v8, v9, v10, v11, v12, v13, v14, rfl, fun _ => ?_, fun e => by rw [up_ne (by decide)] at e; rw [hb11] at e; cases e⟩
  have h := hF.below hbw
  exact ⟨h.hb, (fun e => h.h0 (by rwa [up_ne (by decide)] at e)), (fun e => h.h1 (by rwa [up_ne (by decide)] at e)), (fun e => h.h2 (by rwa [up_ne (by decide)] at e)), (fun _ => rfl), (fun e => h.h4 (by rwa [up_ne (by decide)] at e)), (fun e => h.h5 (by rwa [up_ne (by decide)] at e)), (fun e => h.h6 (by rwa [up_ne (by decide)] at e)), (fun e => h.h7 (by rwa [up_ne (by decide)] at e)), (fun e => h.h8 (by rwa [up_ne (by decide)] at e)), (fun e => h.h9 (by rwa [up_ne (by decide)] at e)), (fun e => h.h10 (by rwa [up_ne (by decide)] at e))⟩
theorem ex_step4 {a0 : Act} {W0 : World} {vb : Value} {g0 gb gv : Nat} {Q : Exit → Act → World → Prop} (hs : a0.tmps.size = 15) (hs0 : a0.tmps[0]? = some (.pointer (some ⟨g0, 0, none⟩))) (hs1 : a0.tmps[1]? = some (.pointer (some ⟨gb, 0, none⟩))) (hg : W0.heap[gb]? = some (.cells #[.int .i64 4, .int .i64 0, vb, .int .i64 0, .int .i64 (-1), .int .i64 0] 46 (0, 0))) (hvb : vb = .slice (some ⟨gv, 0, none⟩) 2 2) :
    StepAt Try.prog (opsOf Try.f65 2) Q exB exO (ExI a0 W0 vb g0) 4 := by
  intro b a w hI hb hwait hnot
  have hb11 := ex_not11 hnot (by decide)
  obtain ⟨v4, v5, v6, v7, v8, v9, v10, v11, v12, v13, v14, rfl, hF, _⟩ := hI
  have hF := hF hb11
  obtain ⟨oi, hoi, hd, hop, hgd⟩ := ex_op4
  refine ⟨oi, hoi, fun K hK => ?_⟩
  refine event_step (v := (.slice (some ⟨w.heap.size, 0, none⟩) 1 1)) (w1 := (w.alloc (.cells #[.int .i64 2] 3))) (wanted_none hgd) ?_ ?_
  · unfold execOp; rw [hop]; go_simp
  · rw [hd, putSel_upk (L' := exL v4 v5 v6 v7 (.slice (some ⟨w.heap.size, 0, none⟩) 1 1) v9 v10 v11 v12 v13 v14) 4 hb rfl rfl rfl]
    refine hK _ _ ⟨v4, v5, v6, v7, (.slice (some ⟨w.heap.size, 0, none⟩) 1 1), v9, v10, v11, v12, v13, v14, rfl, fun _ => ?_, fun e => by rw [up_ne (by decide)] at e; rw [hb11] at e; cases e⟩
    have h := hF.below (below_alloc (Below.refl _ _) (.cells #[.int .i64 2] 3))
    exact ⟨h.hb, (fun e => h.h0 (by rwa [up_ne (by decide)] at e)), (fun e => h.h1 (by rwa [up_ne (by decide)] at e)), (fun e => h.h2 (by rwa [up_ne (by decide)] at e)), (fun e => h.h3 (by rwa [up_ne (by decide)] at e)), (fun _ => ⟨_, rfl, hF.hb.size, blk_new w _⟩), (fun e => by rw [up_ne (by decide), hnot 5 (by decide)] at e; cases e), (fun e => h.h6 (by rwa [up_ne (by decide)] at e)), (fun e => h.h7 (by rwa [up_ne (by decide)] at e)), (fun e => h.h8 (by rwa [up_ne (by decide)] at e)), (fun e => by rw [up_ne (by decide), hnot 9 (by decide)] at e; cases e), (fun e => h.h10 (by rwa [up_ne (by decide)] at e))⟩
theorem ex_step5 {a0 : Act} {W0 : World} {vb : Value} {g0 gb gv : Nat} {Q : Exit → Act → World → Prop} (hs : a0.tmps.size = 15) (hs0 : a0.tmps[0]? = some (.pointer (some ⟨g0, 0, none⟩))) (hs1 : a0.tmps[1]? = some (.pointer (some ⟨gb, 0, none⟩))) (hg : W0.heap[gb]? = some (.cells #[.int .i64 4, .int .i64 0, vb, .int .i64 0, .int .i64 (-1), .int .i64 0] 46 (0, 0))) (hvb : vb = .slice (some ⟨gv, 0, none⟩) 2 2) :
    StepAt Try.prog (opsOf Try.f65 2) Q exB exO (ExI a0 W0 vb g0) 5 := by
  intro b a w hI hb hwait hnot
  have hb11 := ex_not11 hnot (by decide)
  obtain ⟨v4, v5, v6, v7, v8, v9, v10, v11, v12, v13, v14, rfl, hF, _⟩ := hI
  have hF := hF hb11
  obtain ⟨oi, hoi, hd, hop, hgd⟩ := ex_op5
  have w4 : b 4 = true := hwait 4 (by decide)
  obtain ⟨y, z, _⟩ := hF.h4 w4
  refine ⟨oi, hoi, fun K hK => ?_⟩
  rw [hd]
  have tv := eval_of (putSel_on (a := a0) (b := b) (e := (4, 8, v8)) (L := exL v4 v5 v6 v7 v8 v9 v10 v11 v12 v13 v14) 4 rfl rfl w4 (by rw [hs]; rfl))
  have hfr := fun w => g_any 2 (some ⟨y, 0, none⟩) 1 1 w
  refine goes_ (N := some 9) Try.func59 (by kernel_rfl) rfl #[.int .i64 2, v8] (wanted_none hgd) hd hop (by simp only [List.map_toArray, List.map_cons, List.map_nil]; rw [tv]; rfl) ?_
  rw [show (v8 : Value) = .slice (some ⟨y, 0, none⟩) 1 1 from z]
  refine (hfr w).mono ?_
  rintro e w1 ⟨rfl, hbw⟩
  refine ⟨_, rfl, ?_⟩
  rw [← show (v8 : Value) = .slice (some ⟨y, 0, none⟩) 1 1 from z]
  rw [putSel_upk (L' := exL v4 v5 v6 v7 v8 (gAgg 2 v8) v10 v11 v12 v13 v14) 5 hb rfl rfl rfl]
  refine hK _ _ ⟨v4, v5, v6, v7, v8, (gAgg 2 v8), v10, v11, v12, v13, v14, rfl, fun _ => ?_, fun e => by rw [up_ne (by decide)] at e; rw [hb11] at e; cases e⟩
  have h := hF.below hbw
  exact ⟨h.hb, (fun e => h.h0 (by rwa [up_ne (by decide)] at e)), (fun e => h.h1 (by rwa [up_ne (by decide)] at e)), (fun e => h.h2 (by rwa [up_ne (by decide)] at e)), (fun e => h.h3 (by rwa [up_ne (by decide)] at e)), (fun e => h.h4 (by rwa [up_ne (by decide)] at e)), (fun _ => rfl), (fun e => h.h6 (by rwa [up_ne (by decide)] at e)), (fun e => h.h7 (by rwa [up_ne (by decide)] at e)), (fun e => h.h8 (by rwa [up_ne (by decide)] at e)), (fun e => h.h9 (by rwa [up_ne (by decide)] at e)), (fun e => h.h10 (by rwa [up_ne (by decide)] at e))⟩
theorem ex_step6 {a0 : Act} {W0 : World} {vb : Value} {g0 gb gv : Nat} {Q : Exit → Act → World → Prop} (hs : a0.tmps.size = 15) (hs0 : a0.tmps[0]? = some (.pointer (some ⟨g0, 0, none⟩))) (hs1 : a0.tmps[1]? = some (.pointer (some ⟨gb, 0, none⟩))) (hg : W0.heap[gb]? = some (.cells #[.int .i64 4, .int .i64 0, vb, .int .i64 0, .int .i64 (-1), .int .i64 0] 46 (0, 0))) (hvb : vb = .slice (some ⟨gv, 0, none⟩) 2 2) :
    StepAt Try.prog (opsOf Try.f65 2) Q exB exO (ExI a0 W0 vb g0) 6 := by
  intro b a w hI hb hwait hnot
  have hb11 := ex_not11 hnot (by decide)
  obtain ⟨v4, v5, v6, v7, v8, v9, v10, v11, v12, v13, v14, rfl, hF, _⟩ := hI
  have hF := hF hb11
  obtain ⟨oi, hoi, hd, hop, hgd⟩ := ex_op6
  refine ⟨oi, hoi, fun K hK => ?_⟩
  have tv := eval_of ((putSel_off (a := a0) (b := b) (t := 1) (L := exL v4 v5 v6 v7 v8 v9 v10 v11 v12 v13 v14) rfl).trans hs1)
  have hbl := blk_below hg hF.hb
  have c0 : w.cell? ⟨gb, 0, none⟩ = some (.int .i64 4) := (blk_cell hbl 0).trans rfl
  have c1 : w.cell? ⟨gb, 1, none⟩ = some (.int .i64 0) := (blk_cell hbl 1).trans rfl
  have c2 : w.cell? ⟨gb, 2, none⟩ = some vb := (blk_cell hbl 2).trans rfl
  have c3 : w.cell? ⟨gb, 3, none⟩ = some (.int .i64 0) := (blk_cell hbl 3).trans rfl
  have c4 : w.cell? ⟨gb, 4, none⟩ = some (.int .i64 (-1)) := (blk_cell hbl 4).trans rfl
  have c5 : w.cell? ⟨gb, 5, none⟩ = some (.int .i64 0) := (blk_cell hbl 5).trans rfl
  have hu46 := Try.underlying46
  refine event_step (v := (barAgg vb)) (w1 := w) (wanted_none hgd) ?_ ?_
  · unfold execOp; rw [hop]; simp only [tv]; go_simp
  · rw [hd, putSel_upk (L' := exL v4 v5 v6 v7 v8 v9 (barAgg vb) v11 v12 v13 v14) 6 hb rfl rfl rfl]
    refine hK _ _ ⟨v4, v5, v6, v7, v8, v9, (barAgg vb), v11, v12, v13, v14, rfl, fun _ => ?_, fun e => by rw [up_ne (by decide)] at e; rw [hb11] at e; cases e⟩
    have h := hF.below (Below.refl _ _)
    exact ⟨h.hb, (fun e => h.h0 (by rwa [up_ne (by decide)] at e)), (fun e => h.h1 (by rwa [up_ne (by decide)] at e)), (fun e => h.h2 (by rwa [up_ne (by decide)] at e)), (fun e => h.h3 (by rwa [up_ne (by decide)] at e)), (fun e => h.h4 (by rwa [up_ne (by decide)] at e)), (fun e => h.h5 (by rwa [up_ne (by decide)] at e)), (fun _ => rfl), (fun e => h.h7 (by rwa [up_ne (by decide)] at e)), (fun e => h.h8 (by rwa [up_ne (by decide)] at e)), (fun e => h.h9 (by rwa [up_ne (by decide)] at e)), (fun e => h.h10 (by rwa [up_ne (by decide)] at e))⟩
theorem ex_step7 {a0 : Act} {W0 : World} {vb : Value} {g0 gb gv : Nat} {Q : Exit → Act → World → Prop} (hs : a0.tmps.size = 15) (hs0 : a0.tmps[0]? = some (.pointer (some ⟨g0, 0, none⟩))) (hs1 : a0.tmps[1]? = some (.pointer (some ⟨gb, 0, none⟩))) (hg : W0.heap[gb]? = some (.cells #[.int .i64 4, .int .i64 0, vb, .int .i64 0, .int .i64 (-1), .int .i64 0] 46 (0, 0))) (hvb : vb = .slice (some ⟨gv, 0, none⟩) 2 2) :
    StepAt Try.prog (opsOf Try.f65 2) Q exB exO (ExI a0 W0 vb g0) 7 := by
  intro b a w hI hb hwait hnot
  have hb11 := ex_not11 hnot (by decide)
  obtain ⟨v4, v5, v6, v7, v8, v9, v10, v11, v12, v13, v14, rfl, hF, _⟩ := hI
  have hF := hF hb11
  obtain ⟨oi, hoi, hd, hop, hgd⟩ := ex_op7
  refine ⟨oi, hoi, fun K hK => ?_⟩
  refine event_step (v := (.slice (some ⟨w.heap.size, 0, none⟩) 1 1)) (w1 := (w.alloc (.cells #[.int .i64 2] 3))) (wanted_none hgd) ?_ ?_
  · unfold execOp; rw [hop]; go_simp
  · rw [hd, putSel_upk (L' := exL v4 v5 v6 v7 v8 v9 v10 (.slice (some ⟨w.heap.size, 0, none⟩) 1 1) v12 v13 v14) 7 hb rfl rfl rfl]
    refine hK _ _ ⟨v4, v5, v6, v7, v8, v9, v10, (.slice (some ⟨w.heap.size, 0, none⟩) 1 1), v12, v13, v14, rfl, fun _ => ?_, fun e => by rw [up_ne (by decide)] at e; rw [hb11] at e; cases e⟩
    have h := hF.below (below_alloc (Below.refl _ _) (.cells #[.int .i64 2] 3))
    exact ⟨h.hb, (fun e => h.h0 (by rwa [up_ne (by decide)] at e)), (fun e => h.h1 (by rwa [up_ne (by decide)] at e)), (fun e => h.h2 (by rwa [up_ne (by decide)] at e)), (fun e => h.h3 (by rwa [up_ne (by decide)] at e)), (fun e => h.h4 (by rwa [up_ne (by decide)] at e)), (fun e => h.h5 (by rwa [up_ne (by decide)] at e)), (fun e => h.h6 (by rwa [up_ne (by decide)] at e)), (fun _ => ⟨_, rfl, hF.hb.size, blk_new w _⟩), (fun e => by rw [up_ne (by decide), hnot 8 (by decide)] at e; cases e), (fun e => by rw [up_ne (by decide), hnot 9 (by decide)] at e; cases e), (fun e => h.h10 (by rwa [up_ne (by decide)] at e))⟩
theorem ex_step8 {a0 : Act} {W0 : World} {vb : Value} {g0 gb gv : Nat} {Q : Exit → Act → World → Prop} (hs : a0.tmps.size = 15) (hs0 : a0.tmps[0]? = some (.pointer (some ⟨g0, 0, none⟩))) (hs1 : a0.tmps[1]? = some (.pointer (some ⟨gb, 0, none⟩))) (hg : W0.heap[gb]? = some (.cells #[.int .i64 4, .int .i64 0, vb, .int .i64 0, .int .i64 (-1), .int .i64 0] 46 (0, 0))) (hvb : vb = .slice (some ⟨gv, 0, none⟩) 2 2) :
    StepAt Try.prog (opsOf Try.f65 2) Q exB exO (ExI a0 W0 vb g0) 8 := by
  intro b a w hI hb hwait hnot
  have hb11 := ex_not11 hnot (by decide)
  obtain ⟨v4, v5, v6, v7, v8, v9, v10, v11, v12, v13, v14, rfl, hF, _⟩ := hI
  have hF := hF hb11
  obtain ⟨oi, hoi, hd, hop, hgd⟩ := ex_op8
  have w7 : b 7 = true := hwait 7 (by decide)
  obtain ⟨y, z, _⟩ := hF.h7 w7
  refine ⟨oi, hoi, fun K hK => ?_⟩
  rw [hd]
  have tv := eval_of (putSel_on (a := a0) (b := b) (e := (7, 11, v11)) (L := exL v4 v5 v6 v7 v8 v9 v10 v11 v12 v13 v14) 7 rfl rfl w7 (by rw [hs]; rfl))
  have hfr := fun w => g_any 2 (some ⟨y, 0, none⟩) 1 1 w
  refine goes_ (N := some 12) Try.func59 (by kernel_rfl) rfl #[.int .i64 2, v11] (wanted_none hgd) hd hop (by simp only [List.map_toArray, List.map_cons, List.map_nil]; rw [tv]; rfl) ?_
  rw [show (v11 : Value) = .slice (some ⟨y, 0, none⟩) 1 1 from z]
  refine (hfr w).mono ?_
  rintro e w1 ⟨rfl, hbw⟩
  refine ⟨_, rfl, ?_⟩
  rw [← show (v11 : Value) = .slice (some ⟨y, 0, none⟩) 1 1 from z]
  rw [putSel_upk (L' := exL v4 v5 v6 v7 v8 v9 v10 v11 (gAgg 2 v11) v13 v14) 8 hb rfl rfl rfl]
  refine hK _ _ ⟨v4, v5, v6, v7, v8, v9, v10, v11, (gAgg 2 v11), v13, v14, rfl, fun _ => ?_, fun e => by rw [up_ne (by decide)] at e; rw [hb11] at e; cases e⟩
  have h := hF.below hbw
  exact ⟨h.hb, (fun e => h.h0 (by rwa [up_ne (by decide)] at e)), (fun e => h.h1 (by rwa [up_ne (by decide)] at e)), (fun e => h.h2 (by rwa [up_ne (by decide)] at e)), (fun e => h.h3 (by rwa [up_ne (by decide)] at e)), (fun e => h.h4 (by rwa [up_ne (by decide)] at e)), (fun e => h.h5 (by rwa [up_ne (by decide)] at e)), (fun e => h.h6 (by rwa [up_ne (by decide)] at e)), (fun e => h.h7 (by rwa [up_ne (by decide)] at e)), (fun _ => rfl), (fun e => h.h9 (by rwa [up_ne (by decide)] at e)), (fun e => h.h10 (by rwa [up_ne (by decide)] at e))⟩
theorem ex_step9 {a0 : Act} {W0 : World} {vb : Value} {g0 gb gv : Nat} {Q : Exit → Act → World → Prop} (hs : a0.tmps.size = 15) (hs0 : a0.tmps[0]? = some (.pointer (some ⟨g0, 0, none⟩))) (hs1 : a0.tmps[1]? = some (.pointer (some ⟨gb, 0, none⟩))) (hg : W0.heap[gb]? = some (.cells #[.int .i64 4, .int .i64 0, vb, .int .i64 0, .int .i64 (-1), .int .i64 0] 46 (0, 0))) (hvb : vb = .slice (some ⟨gv, 0, none⟩) 2 2) :
    StepAt Try.prog (opsOf Try.f65 2) Q exB exO (ExI a0 W0 vb g0) 9 := by
  intro b a w hI hb hwait hnot
  have hb11 := ex_not11 hnot (by decide)
  obtain ⟨v4, v5, v6, v7, v8, v9, v10, v11, v12, v13, v14, rfl, hF, _⟩ := hI
  have hF := hF hb11
  obtain ⟨oi, hoi, hd, hop, hgd⟩ := ex_op9
  have w0 : b 0 = true := hwait 0 (by decide)
  have w1 : b 1 = true := hwait 1 (by decide)
  have w2 : b 2 = true := hwait 2 (by decide)
  have w3 : b 3 = true := hwait 3 (by decide)
  have w4 : b 4 = true := hwait 4 (by decide)
  have w5 : b 5 = true := hwait 5 (by decide)
  have w6 : b 6 = true := hwait 6 (by decide)
  have w7 : b 7 = true := hwait 7 (by decide)
  have w8 : b 8 = true := hwait 8 (by decide)
  refine ⟨oi, hoi, fun K hK => ?_⟩
  refine event_step (v := (.slice (some ⟨w.heap.size, 0, none⟩) 5 5)) (w1 := (w.alloc (.cells (exCells v4 v6 v8 vb v11).toArray 46))) (wanted_none hgd) ?_ ?_
  · obtain ⟨y4, z4, _⟩ := hF.h0 w0
    obtain ⟨y6, z6, _⟩ := hF.h2 w2
    obtain ⟨y8, z8, _⟩ := hF.h4 w4
    obtain ⟨y11, z11, _⟩ := hF.h7 w7
    have t1 := eval_of (putSel_on (a := a0) (b := b) (e := (1, 5, v5)) (L := exL v4 v5 v6 v7 v8 v9 v10 v11 v12 v13 v14) 1 rfl rfl w1 (by rw [hs]; rfl))
    simp only at t1
    have t3 := eval_of (putSel_on (a := a0) (b := b) (e := (3, 7, v7)) (L := exL v4 v5 v6 v7 v8 v9 v10 v11 v12 v13 v14) 3 rfl rfl w3 (by rw [hs]; rfl))
    simp only at t3
    have t5 := eval_of (putSel_on (a := a0) (b := b) (e := (5, 9, v9)) (L := exL v4 v5 v6 v7 v8 v9 v10 v11 v12 v13 v14) 5 rfl rfl w5 (by rw [hs]; rfl))
    simp only at t5
    have t6 := eval_of (putSel_on (a := a0) (b := b) (e := (6, 10, v10)) (L := exL v4 v5 v6 v7 v8 v9 v10 v11 v12 v13 v14) 6 rfl rfl w6 (by rw [hs]; rfl))
    simp only at t6
    have t8 := eval_of (putSel_on (a := a0) (b := b) (e := (8, 12, v12)) (L := exL v4 v5 v6 v7 v8 v9 v10 v11 v12 v13 v14) 8 rfl rfl w8 (by rw [hs]; rfl))
    simp only at t8
    generalize (putSel a0 b (exL v4 v5 v6 v7 v8 v9 v10 v11 v12 v13 v14)).eval = ev at t1 t3 t5 t6 t8 ⊢
    rw [hF.h1 w1, z4] at t1
    rw [hF.h3 w3, z6] at t3
    rw [hF.h5 w5, z8] at t5
    rw [hF.h6 w6, hvb] at t6
    rw [hF.h8 w8, z11] at t8
    unfold execOp; rw [hop]; simp only [exCells, z4, z6, z8, z11, hvb]
    go_simp
  · rw [hd, putSel_upk (L' := exL v4 v5 v6 v7 v8 v9 v10 v11 v12 (.slice (some ⟨w.heap.size, 0, none⟩) 5 5) v14) 9 hb rfl rfl rfl]
    refine hK _ _ ⟨v4, v5, v6, v7, v8, v9, v10, v11, v12, (.slice (some ⟨w.heap.size, 0, none⟩) 5 5), v14, rfl, fun _ => ?_, fun e => by rw [up_ne (by decide)] at e; rw [hb11] at e; cases e⟩
    have h := hF.below (below_alloc (Below.refl _ _) (.cells (exCells v4 v6 v8 vb v11).toArray 46))
    exact ⟨h.hb, (fun e => h.h0 (by rwa [up_ne (by decide)] at e)), (fun e => h.h1 (by rwa [up_ne (by decide)] at e)), (fun e => h.h2 (by rwa [up_ne (by decide)] at e)), (fun e => h.h3 (by rwa [up_ne (by decide)] at e)), (fun e => h.h4 (by rwa [up_ne (by decide)] at e)), (fun e => h.h5 (by rwa [up_ne (by decide)] at e)), (fun e => h.h6 (by rwa [up_ne (by decide)] at e)), (fun e => h.h7 (by rwa [up_ne (by decide)] at e)), (fun e => h.h8 (by rwa [up_ne (by decide)] at e)), (fun _ => ⟨_, rfl, hF.hb.size, blk_new w _⟩), (fun e => by rw [up_ne (by decide), hnot 10 (by decide)] at e; cases e)⟩
theorem ex_step10 {a0 : Act} {W0 : World} {vb : Value} {g0 gb gv : Nat} {Q : Exit → Act → World → Prop} (hs : a0.tmps.size = 15) (hs0 : a0.tmps[0]? = some (.pointer (some ⟨g0, 0, none⟩))) (hs1 : a0.tmps[1]? = some (.pointer (some ⟨gb, 0, none⟩))) (hg : W0.heap[gb]? = some (.cells #[.int .i64 4, .int .i64 0, vb, .int .i64 0, .int .i64 (-1), .int .i64 0] 46 (0, 0))) (hvb : vb = .slice (some ⟨gv, 0, none⟩) 2 2) :
    StepAt Try.prog (opsOf Try.f65 2) Q exB exO (ExI a0 W0 vb g0) 10 := by
  intro b a w hI hb hwait hnot
  have hb11 := ex_not11 hnot (by decide)
  obtain ⟨v4, v5, v6, v7, v8, v9, v10, v11, v12, v13, v14, rfl, hF, _⟩ := hI
  have hF := hF hb11
  obtain ⟨oi, hoi, hd, hop, hgd⟩ := ex_op10
  have w9 : b 9 = true := hwait 9 (by decide)
  obtain ⟨g, z13, _⟩ := hF.h9 w9
  refine ⟨oi, hoi, fun K hK => ?_⟩
  have tv := eval_of (putSel_on (a := a0) (b := b) (e := (9, 13, v13)) (L := exL v4 v5 v6 v7 v8 v9 v10 v11 v12 v13 v14) 9 rfl rfl w9 (by rw [hs]; rfl))
  have hu24 := Try.underlying24
  refine event_step (v := (.agg #[.int .i64 3, .int .i64 0, v13])) (w1 := w) (wanted_none hgd) ?_ ?_
  · have tc : (putSel a0 b (exL v4 v5 v6 v7 v8 v9 v10 v11 v12 v13 v14)).eval (.const (.int .i64 3)) = .int .i64 3 := rfl
    simp only at tv
    rw [z13] at tv ⊢
    simp only [z13] at tc
    generalize (putSel a0 b _).eval = ev at tv tc ⊢
    unfold execOp; rw [hop]
    go_simp
  · rw [hd, putSel_upk (L' := exL v4 v5 v6 v7 v8 v9 v10 v11 v12 v13 (.agg #[.int .i64 3, .int .i64 0, v13])) 10 hb rfl rfl rfl]
    refine hK _ _ ⟨v4, v5, v6, v7, v8, v9, v10, v11, v12, v13, (.agg #[.int .i64 3, .int .i64 0, v13]), rfl, fun _ => ?_, fun e => by rw [up_ne (by decide)] at e; rw [hb11] at e; cases e⟩
    have h := hF.below (Below.refl _ _)
    exact ⟨h.hb, (fun e => h.h0 (by rwa [up_ne (by decide)] at e)), (fun e => h.h1 (by rwa [up_ne (by decide)] at e)), (fun e => h.h2 (by rwa [up_ne (by decide)] at e)), (fun e => h.h3 (by rwa [up_ne (by decide)] at e)), (fun e => h.h4 (by rwa [up_ne (by decide)] at e)), (fun e => h.h5 (by rwa [up_ne (by decide)] at e)), (fun e => h.h6 (by rwa [up_ne (by decide)] at e)), (fun e => h.h7 (by rwa [up_ne (by decide)] at e)), (fun e => h.h8 (by rwa [up_ne (by decide)] at e)), (fun e => h.h9 (by rwa [up_ne (by decide)] at e)), (fun _ => rfl)⟩
theorem ex_step11 {a0 : Act} {W0 : World} {vb : Value} {g0 : Nat} {Q : Exit → Act → World → Prop} (hs : a0.tmps.size = 15) (hs0 : a0.tmps[0]? = some (.pointer (some ⟨g0, 0, none⟩))) (hg0 : W0.heap[g0]? = some (.cells #[.int .i64 0, .int .i64 0, .slice none 0 0] 24 (0, 0))) :
    StepAt Try.prog (opsOf Try.f65 2) Q exB exO (ExI a0 W0 vb g0) 11 := by
  intro b a w hI hb hwait hnot
  obtain ⟨v4, v5, v6, v7, v8, v9, v10, v11, v12, v13, v14, rfl, hF, _⟩ := hI
  have hF := hF hb
  obtain ⟨oi, hoi, hd, hop, hgd⟩ := ex_op11
  have hw : ∀ j, j < 11 → b j = true := fun j hj => hwait j (by rcases j with _ | _ | _ | _ | _ | _ | _ | _ | _ | _ | _ | j <;> first | decide | omega)
  have w9 := hw 9 (by decide)
  have w10 := hw 10 (by decide)
  obtain ⟨g, z13, _⟩ := hF.h9 w9
  have t0 := eval_of ((putSel_off (a := a0) (b := b) (t := 0) (L := exL v4 v5 v6 v7 v8 v9 v10 v11 v12 v13 v14) rfl).trans hs0)
  have t10 := eval_of (putSel_on (a := a0) (b := b) (e := (10, 14, v14)) (L := exL v4 v5 v6 v7 v8 v9 v10 v11 v12 v13 v14) 10 rfl rfl w10 (by rw [hs]; rfl))
  simp only at t10
  refine ⟨oi, hoi, fun K hK => ?_⟩
  have hu24 := Try.underlying24
  have hbl := blk_below hg0 hF.hb
  have hrun : (execOp (putSel a0 b (exL v4 v5 v6 v7 v8 v9 v10 v11 v12 v13 v14)).eval oi).run Try.prog w = .ok .skip (((w.setCell ⟨g0, 0, none⟩ (.int .i64 3)).setCell ⟨g0, 1, none⟩ (.int .i64 0)).setCell ⟨g0, 2, none⟩ v13) := by
    generalize (putSel a0 b (exL v4 v5 v6 v7 v8 v9 v10 v11 v12 v13 v14)).eval = ev at t0 t10 ⊢
    rw [hF.h10 w10, z13] at t10
    rw [z13]
    have c0 : w.cell? ⟨g0, 0, none⟩ = some (.int .i64 0) := (blk_cell hbl 0).trans rfl
    have c1 : w.cell? ⟨g0, 1, none⟩ = some (.int .i64 0) := (blk_cell hbl 1).trans rfl
    have c2 : w.cell? ⟨g0, 2, none⟩ = some (.slice none 0 0) := (blk_cell hbl 2).trans rfl
    have f0 := blk_frozen hbl 0
    have f1 := blk_frozen hbl 1
    have f2 := blk_frozen hbl 2
    clear hbl
    unfold execOp; rw [hop]
    go_simp
  rw [if_pos (wanted_none hgd)]
  unfold Oper.wp
  rw [hrun]
  show K ((putSel a0 b (exL v4 v5 v6 v7 v8 v9 v10 v11 v12 v13 v14)).put oi.dst undef) _
  rw [hd, putSel_none (i := 11) rfl]
  refine hK _ _ ⟨v4, v5, v6, v7, v8, v9, v10, v11, v12, v13, v14, rfl, (fun e => by rw [up_self] at e; cases e), fun _ => ⟨w, ⟨hF.hb, fun _ => hF.h0 (hw 0 (by decide)), fun _ => hF.h1 (hw 1 (by decide)), fun _ => hF.h2 (hw 2 (by decide)), fun _ => hF.h3 (hw 3 (by decide)), fun _ => hF.h4 (hw 4 (by decide)), fun _ => hF.h5 (hw 5 (by decide)), fun _ => hF.h6 (hw 6 (by decide)), fun _ => hF.h7 (hw 7 (by decide)), fun _ => hF.h8 (hw 8 (by decide)), fun _ => hF.h9 (hw 9 (by decide)), fun _ => hF.h10 (hw 10 (by decide))⟩, rfl⟩⟩
set_option maxRecDepth 100000 in
set_option maxHeartbeats 2000000 in
theorem example_any (w : World) : Calls Try.prog 65 #[] w fun e w' => ∃ g : Nat, e = .returned (.agg #[.int .i64 3, .int .i64 0, .slice (some ⟨g, 0, none⟩) 5 5]) ∧ Kd.C k46 w' (some ⟨g, 0, none⟩) 5 exOps ∧ Below w.heap.size w w' := by
  have hu24 := Try.underlying24
  have hu46 := Try.underlying46
  go_enter Try.func65, Try.ntmps65
  go_upto_region 2 with (fail)
  have hfin : ∀ (W0 : World) (g0 gv gb : Nat), Below w.heap.size w W0 → w.heap.size ≤ g0 → g0 < W0.heap.size → W0.heap[g0]? = some (.cells #[.int .i64 0, .int .i64 0, .slice none 0 0] 24 (0, 0)) → W0.heap[gv]? = some (.cells #[.int .i64 1, .int .i64 2] 3 (0, 0)) → gv ≠ g0 →
      ∀ w1 v4 v5 v6 v7 v8 v9 v10 v11 v12 v13 v14, ExDone W0 (.slice (some ⟨gv, 0, none⟩) 2 2) g0 w1 v4 v5 v6 v7 v8 v9 v10 v11 v12 v13 v14 → ∃ g : Nat, v13 = .slice (some ⟨g, 0, none⟩) 5 5 ∧ w1.heap[g0]? = some (.cells #[.int .i64 3, .int .i64 0, v13] 24 (0, 0)) ∧ Kd.C k46 w1 (some ⟨g, 0, none⟩) 5 exOps ∧ Below w.heap.size w w1 := by
    rintro W0 g0 gv gb hB h0 h0' hz hv hne w1 v4 v5 v6 v7 v8 v9 v10 v11 v12 v13 v14 ⟨w2, hF, rfl⟩
    obtain ⟨g, rfl, hge, hgc⟩ := hF.h9 rfl
    obtain ⟨y4, rfl, z4, q4⟩ := hF.h0 rfl
    obtain ⟨y6, rfl, z6, q6⟩ := hF.h2 rfl
    obtain ⟨y8, rfl, z8, q8⟩ := hF.h4 rfl
    obtain ⟨y11, rfl, z11, q11⟩ := hF.h7 rfl
    have hz2 := blk_below hz hF.hb
    have hv2 := blk_below hv hF.hb
    have s : ∀ (x : Nat) (o : Array Value) (t : TypeId), x ≠ g0 → w2.heap[x]? = some (.cells o t (0, 0)) → (((w2.setCell ⟨g0, 0, none⟩ (.int .i64 3)).setCell ⟨g0, 1, none⟩ (.int .i64 0)).setCell ⟨g0, 2, none⟩ (.slice (some ⟨g, 0, none⟩) 5 5)).heap[x]? = some (.cells o t (0, 0)) := fun x o t hxn hq => blk_far (blk_far (blk_far hq hxn _) hxn _) hxn _
    have r4 := rowC_reads (l := [0]) (s _ _ _ (by omega) q4) (by decide)
    have r6 := rowC_reads (l := [0, 1]) (s _ _ _ (by omega) q6) (by decide)
    have r8 := rowC_reads (l := [2]) (s _ _ _ (by omega) q8) (by decide)
    have r11 := rowC_reads (l := [2]) (s _ _ _ (by omega) q11) (by decide)
    have rv := rowC_reads (l := [1, 2]) (s _ _ _ hne hv2) (by decide)
    have rg := s _ _ _ (by omega) hgc
    refine ⟨g, rfl, ?_, ?_, ?_⟩
    · exact blk_put (blk_put (blk_put hz2 0 _ rfl) 1 _ rfl) 2 _ rfl
    · generalize ((w2.setCell ⟨g0, 0, none⟩ (.int .i64 3)).setCell ⟨g0, 1, none⟩ (.int .i64 0)).setCell ⟨g0, 2, none⟩ (.slice (some ⟨g, 0, none⟩) 5 5) = wz at r4 r6 r8 r11 rv rg
      refine ⟨rfl, by decide, fun _ => ⟨_, rfl, fun j p hj => ?_⟩⟩
      have hc : ∀ (i : Nat) (u : Value), (exCells (.slice (some ⟨y4, 0, none⟩) 1 1) (.slice (some ⟨y6, 0, none⟩) 2 2) (.slice (some ⟨y8, 0, none⟩) 1 1) (.slice (some ⟨gv, 0, none⟩) 2 2) (.slice (some ⟨y11, 0, none⟩) 1 1))[i]? = some u → wz.cell? ((⟨g, 0, none⟩ : Addr).add i) = some u := fun i u hu => by
        rw [add_plain, blk_cell rg]; simpa using hu
      rcases j with _ | _ | _ | _ | _ | j
      · cases hj; exact ⟨_, rfl, k46_mk wz _ (Nat.le_refl _) r4, fun i u hu => hc (0 * 6 + i) u (by rcases i with _ | _ | _ | _ | _ | _ | i <;> first | exact hu | cases hu)⟩
      · cases hj; exact ⟨_, rfl, k46_mk wz _ (Nat.le_refl _) r6, fun i u hu => hc (1 * 6 + i) u (by rcases i with _ | _ | _ | _ | _ | _ | i <;> first | exact hu | cases hu)⟩
      · cases hj; exact ⟨_, rfl, k46_mk wz _ (Nat.le_refl _) r8, fun i u hu => hc (2 * 6 + i) u (by rcases i with _ | _ | _ | _ | _ | _ | i <;> first | exact hu | cases hu)⟩
      · cases hj; exact ⟨_, rfl, k46_mk wz _ (Nat.le_refl _) rv, fun i u hu => hc (3 * 6 + i) u (by rcases i with _ | _ | _ | _ | _ | _ | i <;> first | exact hu | cases hu)⟩
      · cases hj; exact ⟨_, rfl, k46_mk wz _ (Nat.le_refl _) r11, fun i u hu => hc (4 * 6 + i) u (by rcases i with _ | _ | _ | _ | _ | _ | i <;> first | exact hu | cases hu)⟩
      · cases hj
    · exact below_set (below_set (below_set (below_step hB hF.hb) h0) h0) h0
  have b1 := blk_alloc (blk_alloc (blk_new w (.cells #[.int .i64 0, .int .i64 0, .slice none 0 0] 24)) (.cells #[.int .i64 1, .int .i64 2] 3)) (.cells #[.int .i64 4, .int .i64 0, .slice (some ⟨w.heap.size + 1, 0, none⟩) 2 2, .int .i64 0, .int .i64 (-1), .int .i64 0] 46)
  have b2 := blk_alloc (blk_new (w.alloc (.cells #[.int .i64 0, .int .i64 0, .slice none 0 0] 24)) (.cells #[.int .i64 1, .int .i64 2] 3)) (.cells #[.int .i64 4, .int .i64 0, .slice (some ⟨w.heap.size + 1, 0, none⟩) 2 2, .int .i64 0, .int .i64 (-1), .int .i64 0] 46)
  have b3 := blk_new ((w.alloc (.cells #[.int .i64 0, .int .i64 0, .slice none 0 0] 24)).alloc (.cells #[.int .i64 1, .int .i64 2] 3)) (.cells #[.int .i64 4, .int .i64 0, .slice (some ⟨w.heap.size + 1, 0, none⟩) 2 2, .int .i64 0, .int .i64 (-1), .int .i64 0] 46)
  have hB := below_alloc (below_alloc (below_alloc (Below.refl _ w) (.cells #[.int .i64 0, .int .i64 0, .slice none 0 0] 24)) (.cells #[.int .i64 1, .int .i64 2] 3)) (.cells #[.int .i64 4, .int .i64 0, .slice (some ⟨w.heap.size + 1, 0, none⟩) 2 2, .int .i64 0, .int .i64 (-1), .int .i64 0] 46)
  simp only [World.size_alloc] at b2 b3
  generalize ((w.alloc _).alloc _).alloc _ = W0 at b1 b2 b3 hB ⊢
  refine start_ (n := 12) (S := fun _ => True) (ds := []) #[false, false, false, false, false, false, false, false, false, false, false, false] (by kernel_rfl) rfl rfl trivial (fun _ => ?_)
  have hsz : Try.ntmps65 = Try.ntmps65 := rfl
  refine inv_ (T := exT) (B := exB) exO (ExI _ W0.drew (.slice (some ⟨w.heap.size + 1, 0, none⟩) 2 2) w.heap.size) ex_tab ex_bits ex_base (by kernel_rfl) ⟨undef, undef, undef, undef, undef, undef, undef, undef, undef, undef, undef, rfl, fun _ => ?_, fun e => by cases e⟩ ?_ ?_
  · exact ⟨Below.refl _ _, fun e => by (cases e), fun e => by (cases e), fun e => by (cases e), fun e => by (cases e), fun e => by (cases e), fun e => by (cases e), fun e => by (cases e), fun e => by (cases e), fun e => by (cases e), fun e => by (cases e), fun e => by (cases e)⟩
  · refine steps_cons (ex_step0 rfl rfl rfl b3 rfl) (steps_cons (ex_step1 rfl rfl rfl b3 rfl) (steps_cons (ex_step2 rfl rfl rfl b3 rfl) (steps_cons (ex_step3 rfl rfl rfl b3 rfl) (steps_cons (ex_step4 rfl rfl rfl b3 rfl) (steps_cons (ex_step5 rfl rfl rfl b3 rfl) (steps_cons (ex_step6 rfl rfl rfl b3 rfl) (steps_cons (ex_step7 rfl rfl rfl b3 rfl) (steps_cons (ex_step8 rfl rfl rfl b3 rfl) (steps_cons (ex_step9 rfl rfl rfl b3 rfl) (steps_cons (ex_step10 rfl rfl rfl b3 rfl) (steps_cons (ex_step11 rfl rfl b1) steps_nil)))))))))))
  · rintro b a wf hall ⟨v4, v5, v6, v7, v8, v9, v10, v11, v12, v13, v14, rfl, _, hD⟩
    obtain ⟨g, rfl, hc, hC, hBf⟩ := hfin W0.drew w.heap.size (w.heap.size + 1) 0 (below_drew1 hB) (Nat.le_refl _) (blk_lt b1) b1 b2 (by omega) _ _ _ _ _ _ _ _ _ _ _ _ (hD (hall 11 (by decide)))
    have q0 := hall 0 (by decide)
    have q1 := hall 1 (by decide)
    have q2 := hall 2 (by decide)
    have q3 := hall 3 (by decide)
    have q4 := hall 4 (by decide)
    have q5 := hall 5 (by decide)
    have q6 := hall 6 (by decide)
    have q7 := hall 7 (by decide)
    have q8 := hall 8 (by decide)
    have q9 := hall 9 (by decide)
    have q10 := hall 10 (by decide)
    simp only [putSel, exL, q0, q1, q2, q3, q4, q5, q6, q7, q8, q9, q10, if_true, Act.put]
    clear q0 q1 q2 q3 q4 q5 q6 q7 q8 q9 q10 hall hD hfin
    go_wp2
    refine bodyPost_ret (results_cell_row rfl _ _ w.heap.size 24 #[.int .i64 3, .int .i64 0, .slice (some ⟨g, 0, none⟩) 5 5] (0, 0) _ rfl hc Try.underlying24 rfl (by kernel_rfl)) rfl ?_
    exact ⟨g, rfl, hC, hBf⟩
end Go.Proofs.Ytbelnopbggkdfaa
end

section
namespace Go.Proofs.Ytbelnopbggkdfaa.Q
open Go.RowKit Go.Proofs.YtbelnopbggkdfaaW.PrintWords Go.Proofs.YtbelnopbggkdfaaW.PrintLast Go.Proofs.YtbelnopbggkdfaaW.PrintMore
attribute [local go_sem] max2_int min2_int max_two min_two max_three min_three max_four min_four   -- for this text's walks alone
set_option linter.unusedVariables false
set_option linter.unusedSimpArgs false
def layers_Moments.l0 : Nat → List (List Int) → List Int → Int → Int → Int → Int → List (S46) → Option ((List (List Int)) × Int)
  | 0, _, _, _, _, _, _, _ => none
  | k + 1, x6, x20, x21, x22, x531000, x531001, x531002 => if x22 < x21 then (if 0 ≤ x22 then (if x22 < (x20.length : Int) then (if x22 < (x531002.length : Int) then (if ((rd_T46 x531002 x22).f0) = 4 then (layers_Moments.l0 k x6 x20 x21 (wrap64 (x22 + 1)) x531000 x531001 x531002) else (if 0 ≤ (wrap64 ((rd x20 x22) - 1)) then (if (wrap64 ((rd x20 x22) - 1)) < (x6.length : Int) then (if (rd_L1 x6 (wrap64 ((rd x20 x22) - 1))).length < 17592186044416 then (layers_Moments.l0 k (x6.set ((wrap64 ((rd x20 x22) - 1)) : Int).toNat ((rd_L1 x6 (wrap64 ((rd x20 x22) - 1))) ++ [x22])) x20 x21 (wrap64 (x22 + 1)) x531000 x531001 x531002) else (none)) else (none)) else (none))) else (none)) else (none)) else (none)) else (some (x6, 0))
def layers_Moments.f (k : Nat) (a0_0 : Int) (a0_1 : Int) (l0_2 : List (S46)) : Option ((List (List Int)) × Int) := (layers_Depth.f k a0_0 a0_1 l0_2).bind fun bt531 => (if bt531.2 = 0 then (if 0 ≤ bt531.1 then (if (bt531.1 : Int).toNat ≤ 11728124029610 then ((layers_early.f a0_0 a0_1 l0_2).bind fun t536 => (layers_Moments.l0 k (List.replicate (bt531.1 : Int).toNat []) t536 (t536.length : Int) 0 a0_0 a0_1 l0_2)) else (none)) else (none)) else (some (([] : List (List Int)), bt531.2)))
set_option maxHeartbeats 8000000 in
set_option maxRecDepth 100000 in
theorem layers_Moments.calls (k : Nat) (a0_0 : Int) (a0_1 : Int) (A0_2 : Option Addr) (c0_2 : Nat) (l0_2 : List (S46)) (r1 : List (List Int)) (r2 : Int) (w : World) (hr0_2 : Kd.C k46 w A0_2 l0_2.length l0_2) (hc0_2 : l0_2.length ≤ c0_2) (h : layers_Moments.f k a0_0 a0_1 l0_2 = some (r1, r2)) :
    Calls Try.prog 37 #[.agg #[.int .i64 a0_0, .int .i64 a0_1, .slice A0_2 l0_2.length c0_2]] w fun e w' => ∃ v0_ : Value, e = .returned (.tuple #[v0_, .int .i64 r2]) ∧ Kd.S (Kd.slice 3 (Kd.int .i64)) 37 w' w.heap.size (fun _ => True) v0_ r1 ∧ Below w.heap.size w w' := by
  have hu24 := Try.underlying24
  have HR0_2 := Aside0.mk hr0_2
  have HC0_2 := Aside0.mk hc0_2
  clear hr0_2 hc0_2
  have HB := Aside0.mk (Below.refl w.heap.size w)
  have H : ((layers_Depth.f k a0_0 a0_1 l0_2).bind fun bt531 => (if bt531.2 = 0 then (if 0 ≤ bt531.1 then (if (bt531.1 : Int).toNat ≤ 11728124029610 then ((layers_early.f a0_0 a0_1 l0_2).bind fun t536 => (layers_Moments.l0 k (List.replicate (bt531.1 : Int).toNat []) t536 (t536.length : Int) 0 a0_0 a0_1 l0_2)) else (none)) else (none)) else (some (([] : List (List Int)), bt531.2)))) = some (r1, r2) := h
  clear h
  replace H := Option.bind_eq_some_iff.mp H
  obtain ⟨⟨t531, t532⟩, A20, H⟩ := H
  replace H : (if t532 = 0 then (if 0 ≤ t531 then (if (t531 : Int).toNat ≤ 11728124029610 then ((layers_early.f a0_0 a0_1 l0_2).bind fun t536 => (layers_Moments.l0 k (List.replicate (t531 : Int).toNat []) t536 (t536.length : Int) 0 a0_0 a0_1 l0_2)) else (none)) else (none)) else (some (([] : List (List Int)), t532))) = some (r1, r2) := H
  have A2 := Aside0.mk A20
  clear A20
  by_cases c3 : t532 = 0
  · rw [if_pos c3] at H
    have c3b0 : (t532 == 0) = true := beq_iff_eq.mpr c3
    have c3b1 : (t532 != 0) = false := bne_eq_false_iff_eq.mpr c3
    clear c3
    by_cases c4 : 0 ≤ t531
    · rw [if_pos c4] at H
      have c4b0 := eq_true c4
      have c4b1 : decide (0 ≤ t531) = true := decide_eq_true c4
      clear c4
      by_cases c5 : (t531 : Int).toNat ≤ 11728124029610
      · rw [if_pos c5] at H
        have c5b0 := eq_true c5
        have c5b1 : decide ((t531 : Int).toNat ≤ 11728124029610) = true := decide_eq_true c5
        clear c5
        obtain ⟨y533, hy533⟩ : ∃ y_ : List (List Int), y_ = (List.replicate (t531 : Int).toNat []) := ⟨_, rfl⟩
        replace H : ((layers_early.f a0_0 a0_1 l0_2).bind fun t536 => (layers_Moments.l0 k y533 t536 (t536.length : Int) 0 a0_0 a0_1 l0_2)) = some (r1, r2) := by first | (rw [hy533]; with_reducible exact H) | (have H2_ := (Option.bind_some _ _).symm.trans H; rw [hy533]; with_reducible exact H2_) | (have H2_ := (Option.bind_some _ _).symm.trans H; with_reducible exact H2_) | with_reducible exact H | (rw [hy533]; exact H) | exact H
        have Ny533 := Aside0.mk hy533
        clear hy533
        replace H := Option.bind_eq_some_iff.mp H
        obtain ⟨t536, A60, H⟩ := H
        replace H : (layers_Moments.l0 k y533 t536 (t536.length : Int) 0 a0_0 a0_1 l0_2) = some (r1, r2) := H
        have A6 := Aside0.mk A60
        clear A60
        have H' := Aside0.mk H
        clear H
        go_enter Try.func37, Try.ntmps37
        go_wp2_with (first | ((with_reducible refine gate_dst (N := 1) rfl ?_); refine box_event ?hg (N := 1) ?hd (cs := #[.int .i64 a0_0, .int .i64 a0_1, .slice A0_2 l0_2.length c0_2]) (t := 24) ?hr ?_; (case hd => rfl); (case hg => rfl); (case hr => first | (go_simp; done) | (go_simp; rfl)); intro gb530 hg w7 hbox hb; have n0_ := Aside0.mk (below_step (by repeat (first | (with_reducible first | exact HB.out | apply below_alloc | apply pw_below_drewN | apply below_drew1) | exact HB.out)) hb); have n1_ := Aside0.mk (hbox); have n2_ := Aside0.mk ((by rw [hg]; exact (below_size (by repeat (first | (with_reducible first | exact HB.out | apply below_alloc | apply pw_below_drewN | apply below_drew1) | exact HB.out))) : w.heap.size ≤ gb530)); have n3_ := Aside0.mk ((by rw [hg]; exact (below_size (by repeat (first | (with_reducible first | exact HB.out | apply below_alloc | apply pw_below_drewN | apply below_drew1) | exact HB.out))) : w.heap.size ≤ gb530)); clear HB; have HB := n0_; have BK530 := n1_; have GW530 := n2_; have GE530 := n3_; clear n0_ n1_ n2_ n3_; clear hb hbox hg; have hcz8_0 : w7.cell? ⟨gb530, 0, none⟩ = some (.int .i64 a0_0) := (blk_cell BK530.out 0).trans rfl; have hcz8_1 : w7.cell? ⟨gb530, 1, none⟩ = some (.int .i64 a0_1) := (blk_cell BK530.out 1).trans rfl; have hcz8_2 : w7.cell? ⟨gb530, 2, none⟩ = some (.slice A0_2 l0_2.length c0_2) := (blk_cell BK530.out 2).trans rfl; have hfz8_0 := blk_frozen BK530.out 0; have hfz8_1 := blk_frozen BK530.out 1; have hfz8_2 := blk_frozen BK530.out 2) | ((with_reducible refine gate_callee (f := 23) rfl ?_); refine goesL_ (some 11) rfl rfl Try.func23 (by kernel_rfl) rfl #[.agg #[.int .i64 a0_0, .int .i64 a0_1, .slice A0_2 l0_2.length c0_2]] rfl (by (try simp only [List.map_toArray, List.map_cons, List.map_nil]); first | done | rfl | (simp only [List.length_drop, List.length_take]; rfl)) ?_; (with_reducible refine (layers_Depth.calls k a0_0 a0_1 _ _ l0_2 t531 t532 _ ?side1 ?side2 A2.out).mono ?_); (case side1 => repeat (first | exact (Kd.C_below HR0_2.out HB.out) | (with_reducible refine Kd.C_alloc ?_ _) | (with_reducible refine Kd.C_drewN ?_ _) | (with_reducible refine Kd.C_drew ?_))); (case side2 => exact HC0_2.out); rintro e w9 ⟨rfl, hb⟩; refine ⟨_, rfl, ?_⟩; have n0_ := Aside0.mk (blk_below (g := gb530) (o := .cells #[.int .i64 a0_0, .int .i64 a0_1, .slice A0_2 l0_2.length c0_2] 24 (0, 0)) (by (with_reducible repeat (first | refine blk_drewN ?_ _ | refine blk_drew ?_ | refine blk_alloc ?_ _)); exact BK530.out) hb); have n1_ := Aside0.mk (below_step (by repeat (first | (with_reducible first | exact HB.out | apply below_alloc | apply pw_below_drewN | apply below_drew1 | refine below_set ?_ GE530.out) | exact HB.out)) hb); clear BK530; clear HB; have BK530 := n0_; have HB := n1_; clear n0_ n1_; (try clear hb); (try clear hb2); (try clear hk); (try clear hi)) | ((with_reducible refine gate_dst (N := 18) rfl ?_); refine Kd.S_make (Kd.slice 3 (Kd.int .i64)) _ 37 rfl (N := 18) rfl 57 _ _ rfl t531 rfl rfl Try.underlying57 (.slice none 0 0) 24 info37 rfl (by decide) (by omega) [] (ok := fun _ => True) (okp := fun _ => True) ⟨_, rfl, Kd.R_nil _ _ _ _ _⟩ (fun _ hk => hk) trivial (of_decide_eq_true (by first | (with_reducible assumption) | assumption)) (Nat.le_trans (Nat.mul_le_mul_right _ (of_decide_eq_true (by first | (with_reducible assumption) | assumption) : t531.toNat ≤ 11728124029610)) (by omega)) (Below.refl _ _) (Nat.le_refl _) ?_; intro v534 w10 ho11 hb hg_ hnew_; clear hg_ hnew_; (first | rw [← Ny533.out] at ho11 | (simp only [Int.reduceToNat] at ho11; rw [← Ny533.out] at ho11)); have n0_ := Aside0.mk (Kd.S_lower ho11 (below_size (by repeat (first | (with_reducible first | exact HB.out | apply below_alloc | apply pw_below_drewN | apply below_drew1 | refine below_set ?_ GE530.out) | exact HB.out)))); have n1_ := Aside0.mk (blk_below (g := gb530) (o := .cells #[.int .i64 a0_0, .int .i64 a0_1, .slice A0_2 l0_2.length c0_2] 24 (0, 0)) (by (with_reducible repeat (first | refine blk_drewN ?_ _ | refine blk_drew ?_ | refine blk_alloc ?_ _)); exact BK530.out) hb); have n2_ := Aside0.mk (below_step (by repeat (first | (with_reducible first | exact HB.out | apply below_alloc | apply pw_below_drewN | apply below_drew1 | refine below_set ?_ GE530.out) | exact HB.out)) hb); clear BK530; clear HB; have HO535 := n0_; have BK530 := n1_; have HB := n2_; clear n0_ n1_ n2_; clear hb ho11; have hcz12_0 : w10.cell? ⟨gb530, 0, none⟩ = some (.int .i64 a0_0) := (blk_cell BK530.out 0).trans rfl; have hcz12_1 : w10.cell? ⟨gb530, 1, none⟩ = some (.int .i64 a0_1) := (blk_cell BK530.out 1).trans rfl; have hcz12_2 : w10.cell? ⟨gb530, 2, none⟩ = some (.slice A0_2 l0_2.length c0_2) := (blk_cell BK530.out 2).trans rfl; have hfz12_0 := blk_frozen BK530.out 0; have hfz12_1 := blk_frozen BK530.out 1; have hfz12_2 := blk_frozen BK530.out 2) | ((with_reducible refine gate_callee (f := 61) rfl ?_); refine goesL_ (some 20) rfl rfl Try.func61 (by kernel_rfl) rfl #[.agg #[.int .i64 a0_0, .int .i64 a0_1, .slice A0_2 l0_2.length c0_2]] rfl (by (try simp only [List.map_toArray, List.map_cons, List.map_nil]); first | done | rfl | (simp only [List.length_drop, List.length_take]; rfl)) ?_; (with_reducible refine (layers_early.calls a0_0 a0_1 _ _ l0_2 t536 _ ?side1 ?side2 A6.out).mono ?_); (case side1 => repeat (first | exact (Kd.C_below HR0_2.out HB.out) | (with_reducible refine Kd.C_alloc ?_ _) | (with_reducible refine Kd.C_drewN ?_ _) | (with_reducible refine Kd.C_drew ?_))); (case side2 => exact HC0_2.out); rintro e w13 ⟨v537, rfl, ho0, hb⟩; refine ⟨_, rfl, ?_⟩; have n0_ := Aside0.mk (Kd.S_elder' (by (with_reducible repeat (first | apply Kd.S_alloc | apply Kd.S_drewN | apply Kd.S_drew)); exact HO535.out) (Kd.R_base ho0) hb); have n1_ := Aside0.mk (Kd.R_lower ho0 (below_size (by repeat (first | (with_reducible first | exact HB.out | apply below_alloc | apply pw_below_drewN | apply below_drew1 | refine below_set ?_ GE530.out) | exact HB.out)))); have n2_ := Aside0.mk (blk_below (g := gb530) (o := .cells #[.int .i64 a0_0, .int .i64 a0_1, .slice A0_2 l0_2.length c0_2] 24 (0, 0)) (by (with_reducible repeat (first | refine blk_drewN ?_ _ | refine blk_drew ?_ | refine blk_alloc ?_ _)); exact BK530.out) hb); have n3_ := Aside0.mk (below_step (by repeat (first | (with_reducible first | exact HB.out | apply below_alloc | apply pw_below_drewN | apply below_drew1 | refine below_set ?_ GE530.out) | exact HB.out)) hb); clear HO535; clear BK530; clear HB; have HO535 := n0_; have HO538 := n1_; have BK530 := n2_; have HB := n3_; clear n0_ n1_ n2_ n3_; (try clear hb); (try clear hb2); (try clear hk); (try clear hi); (try clear ho0); obtain ⟨Ao14, co14, eo14⟩ := Kd.R_slice HO538.out; subst eo14))
        go_loopg [22] k (fun kq v22 w' => ∃ (x6_1 : List (List Int)) (x22_1 : Int), v22 = .int .i64 x22_1 ∧ Aside0 (layers_Moments.l0 kq x6_1 t536 (t536.length : Int) x22_1 a0_0 a0_1 l0_2 = some (r1, r2)) ∧ Aside0 (kq ≤ k) ∧ Aside0 (Kd.S (Kd.slice 3 (Kd.int .i64)) 37 w' w.heap.size (fun k_ => some k_ ≠ ((.slice Ao14 t536.length co14) : Value).ownBlock) v534 x6_1) ∧ Aside0 (Kd.R (Kd.int .i64) 3 w' w.heap.size (fun _ => True) (.slice Ao14 t536.length co14) t536) ∧ Aside0 (w'.heap[gb530]? = some (.cells #[.int .i64 a0_0, .int .i64 a0_1, (.slice A0_2 l0_2.length c0_2)] 24 (0, 0))) ∧ Aside0 (Below w.heap.size w w'))
        case atStart => exact ⟨(y533), (0), (by first | rfl | (simp; done) | (simp [*]; done)), H', ⟨Nat.le_refl _⟩, ⟨by (with_reducible repeat (first | apply Kd.S_alloc | apply Kd.S_drewN | apply Kd.S_drew)); exact Kd.S_mono HO535.out (fun _ hk => hk.2)⟩, ⟨by (with_reducible repeat (first | apply Kd.R_alloc | apply Kd.R_drewN | apply Kd.R_drew)); exact HO538.out⟩, ⟨by (with_reducible repeat (first | refine blk_drewN ?_ _ | refine blk_drew ?_ | refine blk_alloc ?_ _)); exact BK530.out⟩, ⟨by repeat (first | (with_reducible first | exact HB.out | apply below_alloc | apply pw_below_drewN | apply below_drew1 | refine below_set ?_ GE530.out) | exact HB.out)⟩⟩
        case round =>
          clear H'
          try clear c2
          try clear p2
          try clear c3
          try clear c3b0
          try clear c3b1
          try clear c4
          try clear c4b0
          try clear c4b1
          try clear c5
          try clear c5b0
          try clear c5b1
          try clear c6
          try clear hcz12_0
          try clear hcz12_1
          try clear hcz12_2
          try clear hcz8_0
          try clear hcz8_1
          try clear hcz8_2
          try clear hfz12_0
          try clear hfz12_1
          try clear hfz12_2
          try clear hfz8_0
          try clear hfz8_1
          try clear hfz8_2
          obtain ⟨x6_1, x22_1, rfl, HA, HK1, HO_6, HO_20, BK530, HB⟩ := hrel
          cases gk with
          | zero => exact absurd HA.out (by simp [layers_Moments.l0])
          | succ k1 =>
            have H := HA.out
            clear HA
            simp only [layers_Moments.l0] at H
            by_cases c15 : x22_1 < (t536.length : Int)
            · rw [if_pos c15] at H
              have c15b0 : decide (x22_1 < (t536.length : Int)) = true := decide_eq_true c15
              clear c15
              by_cases c16 : 0 ≤ x22_1
              · rw [if_pos c16] at H
                have c16b0 : decide (0 ≤ x22_1) = true := decide_eq_true c16
                clear c16
                by_cases c17 : x22_1 < (t536.length : Int)
                · rw [if_pos c17] at H
                  have c17b0 : decide (x22_1 < (t536.length : Int)) = true := decide_eq_true c17
                  clear c17
                  by_cases c18 : x22_1 < (l0_2.length : Int)
                  · rw [if_pos c18] at H
                    have c18b0 : decide (x22_1 < (l0_2.length : Int)) = true := decide_eq_true c18
                    clear c18
                    by_cases c19 : ((rd_T46 l0_2 x22_1).f0) = 4
                    · rw [if_pos c19] at H
                      have c19b0 : (((rd_T46 l0_2 x22_1).f0) == 4) = true := beq_iff_eq.mpr c19
                      have c19b1 : (((rd_T46 l0_2 x22_1).f0) != 4) = false := bne_eq_false_iff_eq.mpr c19
                      clear c19
                      have H' := Aside0.mk H
                      clear H
                      have p539 : 0 ≤ (x22_1 : Int) := of_decide_eq_true (by first | (with_reducible assumption) | assumption)
                      have q539 : x22_1 < (t536.length : Int) := of_decide_eq_true (by first | (with_reducible assumption) | assumption)
                      obtain ⟨ad539, e539, hx539_0⟩ := Kd.at_int (Kd.R_reads' HO_20.out).2.2 x22_1 p539 q539
                      cases e539
                      replace p539 := eq_true p539
                      replace q539 := eq_true q539
                      have hcz20_0 : wr.cell? ⟨gb530, 0, none⟩ = some (.int .i64 a0_0) := (blk_cell BK530.out 0).trans rfl
                      have hcz20_1 : wr.cell? ⟨gb530, 1, none⟩ = some (.int .i64 a0_1) := (blk_cell BK530.out 1).trans rfl
                      have hcz20_2 : wr.cell? ⟨gb530, 2, none⟩ = some (.slice A0_2 l0_2.length c0_2) := (blk_cell BK530.out 2).trans rfl
                      have hfz20_0 := blk_frozen BK530.out 0
                      have hfz20_1 := blk_frozen BK530.out 1
                      have hfz20_2 := blk_frozen BK530.out 2
                      have p540 : 0 ≤ (x22_1 : Int) := of_decide_eq_true (by first | (with_reducible assumption) | assumption)
                      have q540 : x22_1 < (l0_2.length : Int) := of_decide_eq_true (by first | (with_reducible assumption) | assumption)
                      obtain ⟨ad540, A540_2, c540_2, e540, hx540_0, hx540_1, hx540_2, hx540_3, hx540_4, hx540_5, hl540_2, hi540_2⟩ := at_T46 HR0_2.out x22_1 p540 q540
                      cases e540
                      replace hx540_0 := (HB.out.cell (World.block_lt_of_cell? w _ hx540_0)).trans hx540_0
                      replace hx540_1 := (HB.out.cell (World.block_lt_of_cell? w _ hx540_1)).trans hx540_1
                      replace hx540_2 := (HB.out.cell (World.block_lt_of_cell? w _ hx540_2)).trans hx540_2
                      replace hx540_3 := (HB.out.cell (World.block_lt_of_cell? w _ hx540_3)).trans hx540_3
                      replace hx540_4 := (HB.out.cell (World.block_lt_of_cell? w _ hx540_4)).trans hx540_4
                      replace hx540_5 := (HB.out.cell (World.block_lt_of_cell? w _ hx540_5)).trans hx540_5
                      have HR540_2 := Aside0.mk hi540_2
                      have HC540_2 := Aside0.mk hl540_2
                      clear hi540_2 hl540_2
                      replace p540 := eq_true p540
                      replace q540 := eq_true q540
                      go_wp2
                      go_roundg k1
                      case measure => have := HK1.out; omega
                      case rel => exact ⟨(x6_1), (wrap64 (x22_1 + 1)), (by first | rfl | (simp; done) | (simp [*]; done)), H', ⟨by have := HK1.out; omega⟩, ⟨by (with_reducible repeat (first | apply Kd.S_alloc | apply Kd.S_drewN | apply Kd.S_drew)); exact HO_6.out⟩, ⟨by (with_reducible repeat (first | apply Kd.R_alloc | apply Kd.R_drewN | apply Kd.R_drew)); exact HO_20.out⟩, ⟨by (with_reducible repeat (first | refine blk_drewN ?_ _ | refine blk_drew ?_ | refine blk_alloc ?_ _)); exact BK530.out⟩, ⟨by repeat (first | (with_reducible first | exact HB.out | apply below_alloc | apply pw_below_drewN | apply below_drew1 | refine below_set ?_ GE530.out) | exact HB.out)⟩⟩
                    · rw [if_neg c19] at H
                      have c19b0 : (((rd_T46 l0_2 x22_1).f0) == 4) = false := beq_eq_false_iff_ne.mpr c19
                      have c19b1 : (((rd_T46 l0_2 x22_1).f0) != 4) = true := bne_iff_ne.mpr c19
                      obtain ⟨ji21, hji21⟩ : ∃ j_ : Int, (wrap64 ((rd t536 x22_1) - 1)) = j_ := ⟨_, rfl⟩
                      replace H : (if 0 ≤ (ji21) then (if (ji21) < (x6_1.length : Int) then (if (rd_L1 x6_1 (ji21)).length < 17592186044416 then (layers_Moments.l0 k1 (x6_1.set ((ji21) : Int).toNat ((rd_L1 x6_1 (ji21)) ++ [x22_1])) t536 (t536.length : Int) (wrap64 (x22_1 + 1)) a0_0 a0_1 l0_2) else (none)) else (none)) else (none)) = some (r1, r2) := by first | (rw [hji21] at H; exact H) | (simp only [hji21] at H ⊢; exact H)
                      have hji21w : (IntKind.i64.wrap ((rd t536 x22_1) - 1)) = ji21 := (i64_w _).trans hji21
                      by_cases c22 : 0 ≤ (ji21)
                      · rw [if_pos c22] at H
                        have c22b0 : decide (0 ≤ (ji21)) = true := decide_eq_true c22
                        clear c22
                        by_cases c23 : (ji21) < (x6_1.length : Int)
                        · rw [if_pos c23] at H
                          have c23b0 : decide ((ji21) < (x6_1.length : Int)) = true := decide_eq_true c23
                          clear c23
                          by_cases c24 : (rd_L1 x6_1 (ji21)).length < 17592186044416
                          · rw [if_pos c24] at H
                            have LMc24 := Aside0.mk c24
                            clear c24
                            obtain ⟨y542, hy542⟩ : ∃ y_ : List Int, y_ = ((rd_L1 x6_1 (ji21)) ++ [x22_1]) := ⟨_, rfl⟩
                            replace H : (layers_Moments.l0 k1 (x6_1.set ((ji21) : Int).toNat y542) t536 (t536.length : Int) (wrap64 (x22_1 + 1)) a0_0 a0_1 l0_2) = some (r1, r2) := by first | (rw [hy542]; with_reducible exact H) | (have H2_ := (Option.bind_some _ _).symm.trans H; rw [hy542]; with_reducible exact H2_) | (have H2_ := (Option.bind_some _ _).symm.trans H; with_reducible exact H2_) | with_reducible exact H | (rw [hy542]; exact H) | exact H
                            have Ny542 := Aside0.mk hy542
                            clear hy542
                            obtain ⟨y545, hy545⟩ : ∃ y_ : List (List Int), y_ = (x6_1.set ((ji21) : Int).toNat y542) := ⟨_, rfl⟩
                            replace H : (layers_Moments.l0 k1 y545 t536 (t536.length : Int) (wrap64 (x22_1 + 1)) a0_0 a0_1 l0_2) = some (r1, r2) := by first | (rw [hy545]; with_reducible exact H) | (have H2_ := (Option.bind_some _ _).symm.trans H; rw [hy545]; with_reducible exact H2_) | (have H2_ := (Option.bind_some _ _).symm.trans H; with_reducible exact H2_) | with_reducible exact H | (rw [hy545]; exact H) | exact H
                            have Ny545 := Aside0.mk hy545
                            clear hy545
                            have H' := Aside0.mk H
                            clear H
                            have p539 : 0 ≤ (x22_1 : Int) := of_decide_eq_true (by first | (with_reducible assumption) | assumption)
                            have q539 : x22_1 < (t536.length : Int) := of_decide_eq_true (by first | (with_reducible assumption) | assumption)
                            obtain ⟨ad539, e539, hx539_0⟩ := Kd.at_int (Kd.R_reads' HO_20.out).2.2 x22_1 p539 q539
                            cases e539
                            replace p539 := eq_true p539
                            replace q539 := eq_true q539
                            have hcz26_0 : wr.cell? ⟨gb530, 0, none⟩ = some (.int .i64 a0_0) := (blk_cell BK530.out 0).trans rfl
                            have hcz26_1 : wr.cell? ⟨gb530, 1, none⟩ = some (.int .i64 a0_1) := (blk_cell BK530.out 1).trans rfl
                            have hcz26_2 : wr.cell? ⟨gb530, 2, none⟩ = some (.slice A0_2 l0_2.length c0_2) := (blk_cell BK530.out 2).trans rfl
                            have hfz26_0 := blk_frozen BK530.out 0
                            have hfz26_1 := blk_frozen BK530.out 1
                            have hfz26_2 := blk_frozen BK530.out 2
                            have p540 : 0 ≤ (x22_1 : Int) := of_decide_eq_true (by first | (with_reducible assumption) | assumption)
                            have q540 : x22_1 < (l0_2.length : Int) := of_decide_eq_true (by first | (with_reducible assumption) | assumption)
                            obtain ⟨ad540, A540_2, c540_2, e540, hx540_0, hx540_1, hx540_2, hx540_3, hx540_4, hx540_5, hl540_2, hi540_2⟩ := at_T46 HR0_2.out x22_1 p540 q540
                            cases e540
                            replace hx540_0 := (HB.out.cell (World.block_lt_of_cell? w _ hx540_0)).trans hx540_0
                            replace hx540_1 := (HB.out.cell (World.block_lt_of_cell? w _ hx540_1)).trans hx540_1
                            replace hx540_2 := (HB.out.cell (World.block_lt_of_cell? w _ hx540_2)).trans hx540_2
                            replace hx540_3 := (HB.out.cell (World.block_lt_of_cell? w _ hx540_3)).trans hx540_3
                            replace hx540_4 := (HB.out.cell (World.block_lt_of_cell? w _ hx540_4)).trans hx540_4
                            replace hx540_5 := (HB.out.cell (World.block_lt_of_cell? w _ hx540_5)).trans hx540_5
                            have HR540_2 := Aside0.mk hi540_2
                            have HC540_2 := Aside0.mk hl540_2
                            clear hi540_2 hl540_2
                            replace p540 := eq_true p540
                            replace q540 := eq_true q540
                            obtain ⟨Ao27, co27, eo27⟩ := Kd.S_slice HO_6.out
                            subst eo27
                            have p541 : 0 ≤ ((ji21) : Int) := of_decide_eq_true (by first | (with_reducible assumption) | assumption)
                            have q541 : (ji21) < (x6_1.length : Int) := of_decide_eq_true (by first | (with_reducible assumption) | assumption)
                            obtain ⟨ad541, A541_0, c541_0, e541, hx541_0, hl541_0, hi541_0⟩ := at_L1 (Kd.S_reads' HO_6.out).2.2 (ji21) p541 q541
                            cases e541
                            obtain ⟨ce541, hce541, hMe541, hcc541⟩ := Kd.S_get HO_6.out [] (ji21) p541 (by first | exact q541 | exact of_decide_eq_true (by first | (with_reducible assumption) | assumption) | (have e_ := (Kd.S_reads' HO_6.out).1; omega))
                            obtain ⟨ve541_0, rfl, ge541_0⟩ := hMe541
                            have hv541_0 := hcc541 0 _ rfl
                            rw [Nat.add_zero, show ((Kd.slice 3 (Kd.int .i64))).sz = 1 from rfl, Nat.mul_one] at hv541_0
                            replace hv541_0 := Option.some.inj (hv541_0.symm.trans hx541_0)
                            rw [hv541_0] at ge541_0
                            have HL541_0 := Aside0.mk (show Kd.R (Kd.int .i64) 3 _ _ _ _ (rd_L1 x6_1 (ji21)) from ge541_0)
                            clear hv541_0 ge541_0
                            have HX541_0 := Aside0.mk hx541_0
                            clear hcc541 hce541
                            have HR541_0 := Aside0.mk hi541_0
                            have HC541_0 := Aside0.mk hl541_0
                            clear hi541_0 hl541_0
                            replace p541 := eq_true p541
                            replace q541 := eq_true q541
                            obtain ⟨go28, co28, eo28, gb28, gl28, cl28, HG28⟩ := Kd.S_form HO_6.out (by have h_ : ((ji21) : Int) < ((x6_1.length : Int) : Int) := of_decide_eq_true (by first | (with_reducible assumption) | assumption); have h2_ : 0 ≤ ((ji21) : Int) := (of_decide_eq_true (by first | (with_reducible assumption) | assumption)); omega)
                            (first | cases eo28 | (injection eo28 with ea_ en_ ec_; (first | subst ea_ | (injection ea_ with ea_; subst ea_)); subst ec_; clear en_))
                            have GB28 := Aside0.mk gb28
                            have GG28 := Aside0.mk HG28
                            clear gb28 gl28 HG28
                            (first | simp only [add_plain] at hx541_0 | skip)
                            obtain ⟨oki28, ce28, hcl28, hM28, hcc28, _, _, hH28⟩ := Kd.S_elem HO_6.out [] ((ji21) : Int) (of_decide_eq_true (by first | (with_reducible assumption) | assumption)) (by have h_ : ((ji21) : Int) < ((x6_1.length : Int) : Int) := of_decide_eq_true (by first | (with_reducible assumption) | assumption); first | exact h_ | (have e_ := (Kd.S_reads' HO_6.out).1; omega) | simpa using h_)
                            obtain ⟨ve28_0, rfl, ge28_0⟩ := hM28
                            have hv28 := hcc28 0 _ rfl
                            have hX28 := HX541_0.out
                            (try simp only [add_plain] at hX28)
                            (try simp only [Nat.add_zero] at hv28)
                            (try rw [show ((Kd.slice 3 (Kd.int .i64))).sz = 1 from rfl, Nat.mul_one] at hv28)
                            replace hv28 := Option.some.inj (hv28.symm.trans hX28)
                            subst hv28
                            clear hX28 hcc28 hcl28
                            have UU28 := Aside0.mk (show Kd.R (Kd.int .i64) 3 _ w.heap.size oki28 (.slice A541_0 (rd_L1 x6_1 (ji21)).length c541_0) (rd_L1 x6_1 (ji21)) from ge28_0)
                            have HH28 := Aside0.mk hH28
                            have HN28 := Aside0.mk (Kd.S_reads' HO_6.out).1
                            clear hH28 ge28_0
                            go_wp2_with (first | ((with_reducible refine gate_builtin (b := .append) (xs := #[.tmp 41, .tmp 43]) rfl ?_); at_builtin; refine Kd.R_append (Kd.int .i64) (w0 := w) w.heap.size rfl (.tmp 41) (.tmp 43) 37 3 (.int .i64 0) 8 rfl Try.underlying37 info3 rfl (by decide) (by omega) (.slice A541_0 (rd_L1 x6_1 (ji21)).length c541_0) (rd_L1 x6_1 (ji21)) x22_1 [.int .i64 x22_1] (fun k_ => oki28 k_ ∨ ((fun k_ => some k_ ≠ (.slice (some ad539) t536.length co14 : Value).ownBlock)) k_ ∧ wr.heap.size ≤ k_) (fun _ => False) rfl rfl ?aP (fun _ hk => hk.elim) ?aF ?aO ?aB ?aS ?aL ?_; (case aP => exact rfl); (case aB => exact (by repeat (first | (with_reducible first | exact HB.out | apply below_alloc | apply pw_below_drewN | apply below_drew1 | refine below_set ?_ GE530.out) | exact HB.out))); (case aF => exact (fun k_ hk => .inr ⟨Kd.fresh' (Kd.R_lt (by (with_reducible repeat (first | apply Kd.R_alloc | apply Kd.R_drewN | apply Kd.R_drew)); exact HO_20.out)) k_ hk, hk⟩)); (case aO => exact (by (with_reducible repeat (first | apply Kd.R_alloc | apply Kd.R_drewN | apply Kd.R_drew)); exact Kd.R_mono UU28.out (fun _ hk => .inl hk))); (case aS => exact (below_size (by repeat (first | (with_reducible first | exact HB.out | apply below_alloc | apply pw_below_drewN | apply below_drew1 | refine below_set ?_ GE530.out) | exact HB.out)))); (case aL => have := LMc24.out; omega); intro v543 w29 ho hb hg hat; rw [← Ny542.out] at ho; have n0_ := Aside0.mk (Kd.R_grown2 (by (with_reducible repeat (first | apply Kd.R_alloc | apply Kd.R_drewN | apply Kd.R_drew)); exact HO_20.out) rfl hg (fun k_ e_ => (HL541_0.out.1 k_ e_).1)); have n1_ := Aside0.mk (blk_grown (g := gb530) (o := .cells #[.int .i64 a0_0, .int .i64 a0_1, .slice (some ad540) l0_2.length c0_2] 24 (0, 0)) (by (with_reducible repeat (first | refine blk_drewN ?_ _ | refine blk_drew ?_ | refine blk_alloc ?_ _)); exact BK530.out) hg (Kd.R_ne HL541_0.out BK530.out (by decide))); have n2_ := Aside0.mk (hb); have n3_ := Aside0.mk (Kd.H_grown (Kd.H_widen (by repeat (first | exact HH28.out | refine Kd.H_alloc ?_ _ | refine Kd.H_drewN ?_ _ | refine Kd.H_drew ?_))) hg (fun k_ e_ => .inl (UU28.out.1 k_ e_))); have n4_ := Aside0.mk (ho); clear HO_20; clear BK530; clear HB; clear HH28; clear HO_6; clear UU28; clear HL541_0; have HO_20 := n0_; have BK530 := n1_; have HB := n2_; have HH28 := n3_; have HO544 := n4_; clear n0_ n1_ n2_ n3_ n4_; clear ho hb hg hat; have p25 : 0 ≤ ((ji21) : Int) := of_decide_eq_true (by first | (with_reducible assumption) | assumption); have q25 : ((ji21) : Int) < ((x6_1.length : Int) : Int) := of_decide_eq_true (by first | (with_reducible assumption) | assumption); replace p25 := eq_true p25; replace q25 := eq_true q25; obtain ⟨Ao32, co32, eo32⟩ := Kd.R_slice HO544.out; subst eo32; obtain ⟨_, _, hraw30, _, _, hcc30, _⟩ := Kd.H_raw HH28.out (of_decide_eq_true (by first | (with_reducible assumption) | assumption)) (by have h_ : ((ji21) : Int) < ((x6_1.length : Int) : Int) := of_decide_eq_true (by first | (with_reducible assumption) | assumption); first | exact h_ | (have e_ := (HN28.out); omega) | simpa using h_); obtain ⟨_, hfr30⟩ := Kd.H_at HH28.out (of_decide_eq_true (by first | (with_reducible assumption) | assumption)) (by have h_ : ((ji21) : Int) < ((x6_1.length : Int) : Int) := of_decide_eq_true (by first | (with_reducible assumption) | assumption); first | exact h_ | (have e_ := (HN28.out); omega) | simpa using h_); have hx30_0 := hcc30 0 _ rfl; have hf30_0 := hfr30 0; (try simp only [Nat.add_zero] at hx30_0 hf30_0); (try rw [show ((Kd.slice 3 (Kd.int .i64))).sz = 1 from rfl, Nat.mul_one] at hx30_0); (try rw [show ((Kd.slice 3 (Kd.int .i64))).sz = 1 from rfl, Nat.mul_one] at hf30_0); have HP30 := Kd.S_seg0 HH28.out (of_decide_eq_true (by first | (with_reducible assumption) | assumption)) (by have h_ : ((ji21) : Int) < ((x6_1.length : Int) : Int) := of_decide_eq_true (by first | (with_reducible assumption) | assumption); first | exact h_ | (have e_ := (HN28.out); omega) | simpa using h_) (seg := [.slice Ao32 y542.length co32]) (j := 0) (show 1 ≤ 1 from by decide) (x' := y542) (Kd.M_row HO544.out) (fun _ hk => hk); (try simp only [show ((Kd.slice 3 (Kd.int .i64))).sz = 1 from rfl, Nat.mul_one, Nat.add_zero] at HP30); clear hcc30 hfr30) | ((with_reducible refine gate_store (t := 37) (p := 45) rfl ?_); refine store_event (t := 37) (p := 45) (v := ?vo_w31) (w1 := (w29.setCell ⟨go28, ((ji21) : Int).toNat, none⟩ (.slice Ao32 y542.length co32))) ?hg ?ho ?hn ?hr ?_; (case ho => rfl); (case hg => rfl); (case hn => rfl); (case hr => first | (go_simp; done) | (go_simp; rfl)); intro w31 hw; have hg : w29.grownBy w31 (some go28) := (by rw [hw]; exact HP30.2); have hp_ : Kd.S (Kd.slice 3 (Kd.int .i64)) 37 w31 w.heap.size (fun k_ => some k_ ≠ (.slice (some ad539) t536.length co14 : Value).ownBlock) (.slice (some ⟨go28, 0, none⟩) x6_1.length co27) y545 := (by rw [hw, Ny545.out]; exact HP30.1); clear HP30; have n0_ := Aside0.mk (Kd.R_over' (v := (.slice (some ⟨go28, 0, none⟩) x6_1.length co27)) (by (with_reducible repeat (first | apply Kd.R_alloc | apply Kd.R_drewN | apply Kd.R_drew)); exact HO_20.out) (Kd.R_typed hraw30) (by decide) hg); have n1_ := Aside0.mk (blk_grown (g := gb530) (o := .cells #[.int .i64 a0_0, .int .i64 a0_1, .slice (some ad540) l0_2.length c0_2] 24 (0, 0)) (by (with_reducible repeat (first | refine blk_drewN ?_ _ | refine blk_drew ?_ | refine blk_alloc ?_ _)); exact BK530.out) hg (Kd.R_ne hraw30 BK530.out (by decide))); have n2_ := Aside0.mk ((by rw [hw]; exact below_set HB.out GB28.out : Below w.heap.size w w31)); have n3_ := Aside0.mk (hp_); clear HO_20; clear BK530; clear HB; clear HO544; clear HH28; have HO_20 := n0_; have BK530 := n1_; have HB := n2_; have HO_6 := n3_; clear n0_ n1_ n2_ n3_; clear hg hw hp_ hraw30))
                            go_roundg k1
                            case measure => have := HK1.out; omega
                            case rel => exact ⟨(y545), (wrap64 (x22_1 + 1)), (by first | rfl | (simp; done) | (simp [*]; done)), H', ⟨by have := HK1.out; omega⟩, ⟨by (with_reducible repeat (first | apply Kd.S_alloc | apply Kd.S_drewN | apply Kd.S_drew)); exact HO_6.out⟩, ⟨by (with_reducible repeat (first | apply Kd.R_alloc | apply Kd.R_drewN | apply Kd.R_drew)); exact HO_20.out⟩, ⟨by (with_reducible repeat (first | refine blk_drewN ?_ _ | refine blk_drew ?_ | refine blk_alloc ?_ _)); exact BK530.out⟩, ⟨by repeat (first | (with_reducible first | exact HB.out | apply below_alloc | apply pw_below_drewN | apply below_drew1 | refine below_set ?_ GE530.out) | exact HB.out)⟩⟩
                          · rw [if_neg c24] at H
                            exact absurd H (by simp)
                        · rw [if_neg c23] at H
                          exact absurd H (by simp)
                      · rw [if_neg c22] at H
                        exact absurd H (by simp)
                  · rw [if_neg c18] at H
                    exact absurd H (by simp)
                · rw [if_neg c17] at H
                  exact absurd H (by simp)
              · rw [if_neg c16] at H
                exact absurd H (by simp)
            · rw [if_neg c15] at H
              have c15b0 : decide (x22_1 < (t536.length : Int)) = false := decide_eq_false c15
              clear c15
              simp only [Option.some.injEq, Prod.mk.injEq] at H
              obtain ⟨rfl, rfl⟩ := H
              go_wp2
              go_ret2
              exact ⟨_, by first | rfl | (simp [errW_none, errW_some] <;> rfl) | (simp [*, errW_none, errW_some] <;> rfl), by (with_reducible repeat (first | apply Kd.S_alloc | apply Kd.S_drewN | apply Kd.S_drew)); exact Kd.S_mono HO_6.out (fun _ hk => trivial), by repeat (first | (with_reducible first | exact HB.out | apply below_alloc | apply pw_below_drewN | apply below_drew1 | refine below_set ?_ GE530.out) | exact HB.out)⟩
      · rw [if_neg c5] at H
        exact absurd H (by simp)
    · rw [if_neg c4] at H
      exact absurd H (by simp)
  · rw [if_neg c3] at H
    have c3b0 : (t532 == 0) = false := beq_eq_false_iff_ne.mpr c3
    have c3b1 : (t532 != 0) = true := bne_iff_ne.mpr c3
    simp only [Option.some.injEq, Prod.mk.injEq] at H
    obtain ⟨rfl, rfl⟩ := H
    go_enter Try.func37, Try.ntmps37
    go_wp2_with (first | ((with_reducible refine gate_dst (N := 1) rfl ?_); refine box_event ?hg (N := 1) ?hd (cs := #[.int .i64 a0_0, .int .i64 a0_1, .slice A0_2 l0_2.length c0_2]) (t := 24) ?hr ?_; (case hd => rfl); (case hg => rfl); (case hr => first | (go_simp; done) | (go_simp; rfl)); intro gb530 hg w33 hbox hb; have n0_ := Aside0.mk (below_step (by repeat (first | (with_reducible first | exact HB.out | apply below_alloc | apply pw_below_drewN | apply below_drew1) | exact HB.out)) hb); have n1_ := Aside0.mk (hbox); have n2_ := Aside0.mk ((by rw [hg]; exact (below_size (by repeat (first | (with_reducible first | exact HB.out | apply below_alloc | apply pw_below_drewN | apply below_drew1) | exact HB.out))) : w.heap.size ≤ gb530)); have n3_ := Aside0.mk ((by rw [hg]; exact (below_size (by repeat (first | (with_reducible first | exact HB.out | apply below_alloc | apply pw_below_drewN | apply below_drew1) | exact HB.out))) : w.heap.size ≤ gb530)); clear HB; have HB := n0_; have BK530 := n1_; have GW530 := n2_; have GE530 := n3_; clear n0_ n1_ n2_ n3_; clear hb hbox hg; have hcz34_0 : w33.cell? ⟨gb530, 0, none⟩ = some (.int .i64 a0_0) := (blk_cell BK530.out 0).trans rfl; have hcz34_1 : w33.cell? ⟨gb530, 1, none⟩ = some (.int .i64 a0_1) := (blk_cell BK530.out 1).trans rfl; have hcz34_2 : w33.cell? ⟨gb530, 2, none⟩ = some (.slice A0_2 l0_2.length c0_2) := (blk_cell BK530.out 2).trans rfl; have hfz34_0 := blk_frozen BK530.out 0; have hfz34_1 := blk_frozen BK530.out 1; have hfz34_2 := blk_frozen BK530.out 2) | ((with_reducible refine gate_callee (f := 23) rfl ?_); refine goesL_ (some 11) rfl rfl Try.func23 (by kernel_rfl) rfl #[.agg #[.int .i64 a0_0, .int .i64 a0_1, .slice A0_2 l0_2.length c0_2]] rfl (by (try simp only [List.map_toArray, List.map_cons, List.map_nil]); first | done | rfl | (simp only [List.length_drop, List.length_take]; rfl)) ?_; (with_reducible refine (layers_Depth.calls k a0_0 a0_1 _ _ l0_2 t531 t532 _ ?side1 ?side2 A2.out).mono ?_); (case side1 => repeat (first | exact (Kd.C_below HR0_2.out HB.out) | (with_reducible refine Kd.C_alloc ?_ _) | (with_reducible refine Kd.C_drewN ?_ _) | (with_reducible refine Kd.C_drew ?_))); (case side2 => exact HC0_2.out); rintro e w35 ⟨rfl, hb⟩; refine ⟨_, rfl, ?_⟩; have n0_ := Aside0.mk (blk_below (g := gb530) (o := .cells #[.int .i64 a0_0, .int .i64 a0_1, .slice A0_2 l0_2.length c0_2] 24 (0, 0)) (by (with_reducible repeat (first | refine blk_drewN ?_ _ | refine blk_drew ?_ | refine blk_alloc ?_ _)); exact BK530.out) hb); have n1_ := Aside0.mk (below_step (by repeat (first | (with_reducible first | exact HB.out | apply below_alloc | apply pw_below_drewN | apply below_drew1 | refine below_set ?_ GE530.out) | exact HB.out)) hb); clear BK530; clear HB; have BK530 := n0_; have HB := n1_; clear n0_ n1_; (try clear hb); (try clear hb2); (try clear hk); (try clear hi)))
    go_ret2
    exact ⟨_, by first | rfl | (simp [errW_none, errW_some] <;> rfl) | (simp [*, errW_none, errW_some] <;> rfl), by first | exact Kd.S_nil _ _ _ _ _ | exact Kd.N_nil _ _ _ _ _ | exact Kd.V_nil _ _ _ _ _ | exact Kd.Q_nil _ _ _ _ _ | exact Kd.R_nil _ _ _ _ _, by repeat (first | (with_reducible first | exact HB.out | apply below_alloc | apply pw_below_drewN | apply below_drew1 | refine below_set ?_ GE530.out) | exact HB.out)⟩
end Go.Proofs.Ytbelnopbggkdfaa.Q
end

section
namespace Go.Proofs.Ytbelnopbggkdfaa.Q
open Go.RowKit Go.Proofs.YtbelnopbggkdfaaW.PrintWords Go.Proofs.YtbelnopbggkdfaaW.PrintLast Go.Proofs.YtbelnopbggkdfaaW.PrintMore
theorem ex_early : layers_Early.f 40 3 0 exOps = some ([1, 2, 1, 2, 3], 0) := by kernel_rfl
theorem ex_late : layers_Late.f 40 3 0 exOps = some ([1, 2, 2, 2, 3], 0) := by kernel_rfl
theorem ex_depth : layers_Depth.f 40 3 0 exOps = some (3, 0) := by kernel_rfl
theorem ex_moments : layers_Moments.f 40 3 0 exOps = some ([[0, 2], [1], [4]], 0) := by kernel_rfl
theorem ex_past : layers_Past.f 40 3 0 exOps [2] = some ([2, 4], 0) := by kernel_rfl
theorem ex_past3 : layers_Past.f 40 3 0 exOps [3] = some ([], 190) := by kernel_rfl
def exSorted : List S46 := [⟨1, 2, [0], 0, -1, 0⟩, ⟨1, 2, [2], 0, -1, 0⟩, ⟨1, 11, [0, 1], 0, -1, 0⟩, ⟨4, 0, [1, 2], 0, -1, 0⟩, ⟨1, 2, [2], 0, -1, 0⟩]
theorem ex_sorted : layers_Sorted.f 40 3 0 exOps = some (3, 0, exSorted, 0) := by kernel_rfl
theorem ex_ints1 : phasorlaw19_ints.f 40 [1, 2, 1, 2, 3] [1, 2, 1, 2, 3] = some true := by kernel_rfl
theorem ex_ints2 : phasorlaw19_ints.f 40 [1, 2, 2, 2, 3] [1, 2, 2, 2, 3] = some true := by kernel_rfl
theorem ex_ints3 : phasorlaw19_ints.f 40 [2, 4] [2, 4] = some true := by kernel_rfl
theorem exE (W : World) (A : Option Addr) (h : Kd.C k46 W A 5 exOps) : Calls Try.prog 21 #[.agg #[.int .i64 3, .int .i64 0, .slice A 5 5]] W fun e w' => ∃ A' c', e = .returned (.tuple #[.slice A' 5 c', .int .i64 0]) ∧ Kd.R (Kd.int .i64) 3 w' W.heap.size (fun _ => True) (.slice A' 5 c') [1, 2, 1, 2, 3] ∧ Below W.heap.size W w' :=
  (layers_Early.calls 40 3 0 A 5 exOps _ _ W h (by decide) ex_early).mono fun e w' ⟨v, a, b, c⟩ => by obtain ⟨A', c', rfl⟩ := Kd.R_slice b; exact ⟨A', c', a, b, c⟩
theorem exL (W : World) (A : Option Addr) (h : Kd.C k46 W A 5 exOps) : Calls Try.prog 22 #[.agg #[.int .i64 3, .int .i64 0, .slice A 5 5]] W fun e w' => ∃ A' c', e = .returned (.tuple #[.slice A' 5 c', .int .i64 0]) ∧ Kd.R (Kd.int .i64) 3 w' W.heap.size (fun _ => True) (.slice A' 5 c') [1, 2, 2, 2, 3] ∧ Below W.heap.size W w' :=
  (layers_Late.calls 40 3 0 A 5 exOps _ _ W h (by decide) ex_late).mono fun e w' ⟨v, a, b, c⟩ => by obtain ⟨A', c', rfl⟩ := Kd.R_slice b; exact ⟨A', c', a, b, c⟩
theorem exD (W : World) (A : Option Addr) (h : Kd.C k46 W A 5 exOps) : Calls Try.prog 23 #[.agg #[.int .i64 3, .int .i64 0, .slice A 5 5]] W fun e w' => e = .returned (.tuple #[.int .i64 3, .int .i64 0]) ∧ Below W.heap.size W w' :=
  (layers_Depth.calls 40 3 0 A 5 exOps _ _ W h (by decide) ex_depth).mono fun e w' h => h
theorem exM (W : World) (A : Option Addr) (h : Kd.C k46 W A 5 exOps) : Calls Try.prog 37 #[.agg #[.int .i64 3, .int .i64 0, .slice A 5 5]] W fun e w' => ∃ A' c, e = .returned (.tuple #[.slice A' 3 c, .int .i64 0]) ∧ Below W.heap.size W w' :=
  (layers_Moments.calls 40 3 0 A 5 exOps _ _ W h (by decide) ex_moments).mono fun e w' ⟨v, a, b, c⟩ => by obtain ⟨A', c', hv⟩ := Kd.S_slice b; exact ⟨A', c', by rw [a, hv]; rfl, c⟩
theorem exS (W : World) (A : Option Addr) (h : Kd.C k46 W A 5 exOps) : Calls Try.prog 27 #[.agg #[.int .i64 3, .int .i64 0, .slice A 5 5]] W fun e w' => ∃ g c, e = .returned (.tuple #[.agg #[.int .i64 3, .int .i64 0, .slice (some ⟨g, 0, none⟩) 5 c], .int .i64 0]) ∧ g < w'.heap.size ∧ w'.cell? ⟨g, 7, none⟩ = some (.int .i64 2) ∧ Below W.heap.size W w' := by
  refine (layers_Sorted.calls 40 3 0 A 5 exOps _ _ _ _ W h (by decide) ex_sorted).mono ?_
  rintro e w' ⟨v, rfl, b, c⟩
  obtain ⟨g, cap, rfl, _, hlt, _⟩ := Kd.N_form b (by decide)
  obtain ⟨_, _, hC⟩ := Kd.N_reads' b
  obtain ⟨ad, A2, c2, e, _, k1, _⟩ := at_T46 hC 1 (by decide) (by decide)
  cases e
  exact ⟨g, cap, rfl, hlt, k1, c⟩
theorem exP (W : World) (A : Option Addr) (B : Option Addr) (h : Kd.C k46 W A 5 exOps) (hq : Kd.C (Kd.int .i64) W B 1 [2]) : Calls Try.prog 31 #[.agg #[.int .i64 3, .int .i64 0, .slice A 5 5], .slice B 1 1] W fun e w' => ∃ A' c', e = .returned (.tuple #[.slice A' 2 c', .int .i64 0]) ∧ Kd.R (Kd.int .i64) 3 w' W.heap.size (fun _ => True) (.slice A' 2 c') [2, 4] ∧ Below W.heap.size W w' :=
  (layers_Past.calls 40 3 0 A 5 exOps B 1 [2] _ _ W h (by decide) hq (by decide) ex_past).mono fun e w' ⟨v, a, b, c⟩ => by obtain ⟨A', c', rfl⟩ := Kd.R_slice b; exact ⟨A', c', a, b, c⟩
theorem exP3 (W : World) (A : Option Addr) (B : Option Addr) (h : Kd.C k46 W A 5 exOps) (hq : Kd.C (Kd.int .i64) W B 1 [3]) : Calls Try.prog 31 #[.agg #[.int .i64 3, .int .i64 0, .slice A 5 5], .slice B 1 1] W fun e w' => ∃ v, e = .returned (.tuple #[v, .int .i64 190]) ∧ Below W.heap.size W w' :=
  (layers_Past.calls 40 3 0 A 5 exOps B 1 [3] _ _ W h (by decide) hq (by decide) ex_past3).mono fun e w' ⟨v, a, b, c⟩ => ⟨v, a, c⟩
theorem exI (W : World) {base c n : Nat} {A B : Option Addr} (l : List Int) (hn : l.length = n) (h : Kd.R (Kd.int .i64) 3 W base (fun _ => True) (.slice A n c) l) (hq : Kd.C (Kd.int .i64) W B n l) (hi : phasorlaw19_ints.f 40 l l = some true) : Calls Try.prog 36 #[.slice A n c, .slice B n n] W fun e w' => e = .returned (.bool true) ∧ Below W.heap.size W w' := by
  subst hn
  obtain ⟨_, h1, h2⟩ := Kd.R_reads' h
  exact (phasorlaw19_ints.calls 40 A c l B l.length l true W h2 h1 hq (Nat.le_refl _) hi).mono fun e w' ⟨a, b⟩ => ⟨a, b.below⟩
end Go.Proofs.Ytbelnopbggkdfaa.Q
end

section
namespace Go.Proofs.Ytbelnopbggkdfaa.Q
open Go.RowKit Go.Proofs.YtbelnopbggkdfaaW.PrintWords Go.Proofs.YtbelnopbggkdfaaW.PrintLast Go.Proofs.YtbelnopbggkdfaaW.PrintMore
set_option maxHeartbeats 4000000 in
set_option maxRecDepth 1000000 in
theorem heads_any (w : World) : Calls Try.prog 25 #[] w fun e w' => e = .returned (.bool true) ∧ Below w.heap.size w w' := by
  have hu24 := Try.underlying24
  have hu46 := Try.underlying46
  have HB := Aside0.mk (Below.refl w.heap.size w)
  go_enter Try.func25, Try.ntmps25
  go_upto_region 2 with (first | (go_at_call 65; (with_reducible refine (example_any _).mono ?_); rintro e w1 ⟨g1, rfl, hC1, hb1⟩) | (go_at_call 21; (with_reducible refine (exE _ _ hC1).mono ?_); rintro e w2 ⟨v1, c1, rfl, ho1, hb2⟩))
  have HO1 := Aside0.mk (Kd.R_lower ho1 (hb1.size))
  replace HB := Aside0.mk (below_step (below_step HB.out hb1) hb2)
  clear ho1 hb2 hC1 hb1
  go_upto_region 3 with (first | (go_at_call 65; (with_reducible refine (example_any _).mono ?_); rintro e w3 ⟨g1, rfl, hC1, hb1⟩) | (go_at_call 22; (with_reducible refine (exL _ _ hC1).mono ?_); rintro e w4 ⟨v3, c3, rfl, ho3, hb2⟩))
  have HO3 := Aside0.mk (Kd.R_lower ho3 (hb1.size))
  replace HO1 := Aside0.mk (Kd.R_below (Kd.R_below HO1.out hb1) hb2)
  replace HB := Aside0.mk (below_step (below_step HB.out hb1) hb2)
  clear ho3 hb2 hC1 hb1
  go_upto_region 4 with (first | (go_at_call 65; (with_reducible refine (example_any _).mono ?_); rintro e w5 ⟨g1, rfl, hC1, hb1⟩) | (go_at_call 23; (with_reducible refine (exD _ _ hC1).mono ?_); rintro e w6 ⟨rfl, hb2⟩))
  replace HO1 := Aside0.mk (Kd.R_below (Kd.R_below HO1.out hb1) hb2)
  replace HO3 := Aside0.mk (Kd.R_below (Kd.R_below HO3.out hb1) hb2)
  replace HB := Aside0.mk (below_step (below_step HB.out hb1) hb2)
  clear hb2 hC1 hb1
  go_upto_region 5 with (first | (go_at_call 65; (with_reducible refine (example_any _).mono ?_); rintro e w7 ⟨g1, rfl, hC1, hb1⟩) | (go_at_call 37; (with_reducible refine (exM _ _ hC1).mono ?_); rintro e w8 ⟨v7, c7, rfl, hb2⟩))
  replace HO1 := Aside0.mk (Kd.R_below (Kd.R_below HO1.out hb1) hb2)
  replace HO3 := Aside0.mk (Kd.R_below (Kd.R_below HO3.out hb1) hb2)
  replace HB := Aside0.mk (below_step (below_step HB.out hb1) hb2)
  clear hb2 hC1 hb1
  go_upto_region 6 with (first | (go_at_call 65; (with_reducible refine (example_any _).mono ?_); rintro e w9 ⟨g1, rfl, hC1, hb1⟩) | (go_at_call 31; (with_reducible refine (exP _ _ _ (Kd.C_alloc hC1 _) (rowC_reads (l := [2]) (blk_new _ _) (by decide))).mono ?_); rintro e w10 ⟨v9, c9, rfl, ho9, hb2⟩))
  have hb3 := below_step (below_alloc (Below.refl w9.heap.size w9) (.cells #[.int .i64 2] 3)) hb2
  have HO9 := Aside0.mk (Kd.R_lower (base' := w.heap.size) ho9 (by have := hb1.size; have := HB.out.size; simp only [World.size_alloc]; omega))
  replace HO1 := Aside0.mk (Kd.R_below (Kd.R_below HO1.out hb1) hb3)
  replace HO3 := Aside0.mk (Kd.R_below (Kd.R_below HO3.out hb1) hb3)
  replace HB := Aside0.mk (below_step (below_step HB.out hb1) hb3)
  clear ho9 hb2 hC1 hb1 hb3
  go_upto_region 7 with (first | (go_at_call 65; (with_reducible refine (example_any _).mono ?_); rintro e w11 ⟨g1, rfl, hC1, hb1⟩) | (go_at_call 27; (with_reducible refine (exS _ _ hC1).mono ?_); rintro e w12 ⟨g11, c11, rfl, hl11, hc11, hb2⟩))
  have hc11' : (w12.alloc (.cells #[.int .i64 3, .int .i64 0, .slice (some ⟨g11, 0, none⟩) 5 c11] 24)).cell? ⟨g11, 7, none⟩ = some (.int .i64 2) := (Below.cell (below_alloc (Below.refl w12.heap.size w12) _) (p := ⟨g11, 7, none⟩) hl11).trans hc11
  have hx11 := blk_new w12 (.cells #[.int .i64 3, .int .i64 0, .slice (some ⟨g11, 0, none⟩) 5 c11] 24)
  have hb3 := below_alloc (below_step hb1 hb2) (.cells #[.int .i64 3, .int .i64 0, .slice (some ⟨g11, 0, none⟩) 5 c11] 24)
  have hl12 : g11 < (w12.alloc (.cells #[.int .i64 3, .int .i64 0, .slice (some ⟨g11, 0, none⟩) 5 c11] 24)).heap.size := by simp only [World.size_alloc]; omega
  have hl13 : w12.heap.size < (w12.alloc (.cells #[.int .i64 3, .int .i64 0, .slice (some ⟨g11, 0, none⟩) 5 c11] 24)).heap.size := by simp only [World.size_alloc]; omega
  replace HO1 := Aside0.mk (Kd.R_below HO1.out hb3)
  replace HO3 := Aside0.mk (Kd.R_below HO3.out hb3)
  replace HO9 := Aside0.mk (Kd.R_below HO9.out hb3)
  replace HB := Aside0.mk (below_step HB.out hb3)
  clear hb2 hC1 hb1 hb3 hc11 hl11
  generalize w12.heap.size = x11 at *
  generalize w12.alloc _ = w13 at *
  go_upto_region 8 with (first | (go_at_call 65; (with_reducible refine (example_any _).mono ?_); rintro e w14 ⟨g1, rfl, hC1, hb1⟩) | (go_at_call 31; (with_reducible refine (exP3 _ _ _ (Kd.C_alloc hC1 _) (rowC_reads (l := [3]) (blk_new _ _) (by decide))).mono ?_); rintro e w15 ⟨v13, rfl, hb2⟩))
  have hb3 := below_step hb1 (below_step (below_alloc (Below.refl w14.heap.size w14) (.cells #[.int .i64 3] 3)) hb2)
  replace HO1 := Aside0.mk (Kd.R_below HO1.out hb3)
  replace HO3 := Aside0.mk (Kd.R_below HO3.out hb3)
  replace HO9 := Aside0.mk (Kd.R_below HO9.out hb3)
  replace HB := Aside0.mk (below_step HB.out hb3)
  replace hc11' := (Below.cell hb3 (p := ⟨g11, 7, none⟩) hl12).trans hc11'
  replace hl12 := Nat.lt_of_lt_of_le hl12 hb3.size
  replace hx11 := blk_below hx11 hb3
  clear hb2 hC1 hb1 hb3 hl13
  go_upto_region 9 with (go_at_call 36; (with_reducible refine (exI _ _ (by decide) (Kd.R_alloc HO1.out _) (rowC_reads (l := [1, 2, 1, 2, 3]) (blk_new _ _) (by decide)) ex_ints1).mono ?_); rintro e w16 ⟨rfl, hb2⟩)
  replace hb2 := below_step (below_alloc (Below.refl w15.heap.size w15) _) hb2
  replace HO3 := Aside0.mk (Kd.R_below HO3.out hb2)
  replace HO9 := Aside0.mk (Kd.R_below HO9.out hb2)
  replace HB := Aside0.mk (below_step HB.out hb2)
  replace hc11' := (Below.cell hb2 (p := ⟨g11, 7, none⟩) hl12).trans hc11'
  replace hl12 := Nat.lt_of_lt_of_le hl12 hb2.size
  replace hx11 := blk_below hx11 hb2
  clear hb2 HO1
  go_upto_region 10 with (go_at_call 36; (with_reducible refine (exI _ _ (by decide) (Kd.R_alloc HO3.out _) (rowC_reads (l := [1, 2, 2, 2, 3]) (blk_new _ _) (by decide)) ex_ints2).mono ?_); rintro e w17 ⟨rfl, hb2⟩)
  replace hb2 := below_step (below_alloc (Below.refl w16.heap.size w16) _) hb2
  replace HO9 := Aside0.mk (Kd.R_below HO9.out hb2)
  replace HB := Aside0.mk (below_step HB.out hb2)
  replace hc11' := (Below.cell hb2 (p := ⟨g11, 7, none⟩) hl12).trans hc11'
  replace hl12 := Nat.lt_of_lt_of_le hl12 hb2.size
  replace hx11 := blk_below hx11 hb2
  clear hb2 HO3
  go_upto_region 11 with (go_at_call 36; (with_reducible refine (exI _ _ (by decide) (Kd.R_alloc HO9.out _) (rowC_reads (l := [2, 4]) (blk_new _ _) (by decide)) ex_ints3).mono ?_); rintro e w18 ⟨rfl, hb2⟩)
  replace hb2 := below_step (below_alloc (Below.refl w17.heap.size w17) _) hb2
  replace HB := Aside0.mk (below_step HB.out hb2)
  replace hc11' := (Below.cell hb2 (p := ⟨g11, 7, none⟩) hl12).trans hc11'
  replace hx11 := blk_below hx11 hb2
  have hx2 : w18.cell? ⟨x11, 2, none⟩ = some (.slice (some ⟨g11, 0, none⟩) 5 c11) := by rw [blk_cell hx11]; rfl
  clear hb2 HO9 hx11 hl12
  go_wp2
  go_ret
  exact ⟨rfl, HB.out⟩
end Go.Proofs.Ytbelnopbggkdfaa.Q
end

section
namespace Go.Proofs.Ytbelnopbggkdfaa.Q
open Go.RowKit Go.Proofs.YtbelnopbggkdfaaW.PrintWords Go.Proofs.YtbelnopbggkdfaaW.PrintLast Go.Proofs.YtbelnopbggkdfaaW.PrintMore
structure TellS (w : World) (gc gx : Nat) (q b : Int) (A Ax : Option Addr) (c cx : Nat) (l : List Opn) (B Bq : Option Addr) (qs : List Int) (W : World) : Prop where
  hb : Below w.heap.size w W
  bc : W.heap[gc]? = some (.cells #[.int .i64 q, .int .i64 b, .slice A l.length c] 24 (0, 0))
  bx : W.heap[gx]? = some (.cells #[.int .i64 q, .int .i64 b, .slice Ax l.length cx] 24 (0, 0))
  cc : Kd.C k46 W A l.length l
  cx : Kd.C k46 W Ax l.length l
  hq : Kd.C (Kd.int .i64) W B qs.length qs
  hqx : Kd.C (Kd.int .i64) W Bq qs.length qs
theorem TellS.below {w : World} {gc gx : Nat} {q b : Int} {A Ax : Option Addr} {c cx : Nat} {l : List Opn} {B Bq : Option Addr} {qs : List Int} {W W' : World} (h : TellS w gc gx q b A Ax c cx l B Bq qs W) (hb : Below W.heap.size W W') : TellS w gc gx q b A Ax c cx l B Bq qs W' :=
  ⟨below_step h.hb hb, blk_below h.bc hb, blk_below h.bx hb, Kd.C_below h.cc hb, Kd.C_below h.cx hb, Kd.C_below h.hq hb, Kd.C_below h.hqx hb⟩
theorem told_step {w0 w1 w2 : World} {A1 A2 : Option Addr} {c1 c2 : Nat} {E : List Int} {e : Int} (hn : E.length ≤ 4611686018427387904) (o1 : Kd.R (Kd.int .i64) 3 w1 w0.heap.size (fun _ => True) (.slice A1 E.length c1) E) (b1 : Below w0.heap.size w0 w1) (o2 : Kd.R (Kd.int .i64) 3 w2 w1.heap.size (fun _ => True) (.slice A2 E.length c2) E) (b2 : Below w1.heap.size w1 w2) :
    Calls Try.prog 29 #[.slice A1 E.length c1, .int .i64 e, .slice A2 E.length c2, .int .i64 e] w2 fun x w' => x = .returned (.bool true) ∧ Below w0.heap.size w0 w' := by
  obtain ⟨k, r, hk⟩ := (told_is (l := E) (e := e) hn).get
  refine (phasorlaw19_told.calls k (fun k => k < w1.heap.size) _ E e A2 c2 E e true r w0 w2 (below_step b1 b2) (Kd.R_below (Kd.R_mono (Kd.R_bound o1) (fun k hk => hk.2.2.1)) b2) (Kd.C_kept_own (Kd.R_mono (Kd.R_bound o2) (ok' := fun k => w1.heap.size ≤ k) (fun k hk => hk.2.1)) (fun k hk => Nat.not_lt.2 hk)) (Kd.R_reads' o2).2.1 hk).mono ?_
  rintro x w' ⟨rfl, _, h, _⟩
  exact ⟨rfl, h⟩
theorem tell_facts {q b : Int} {l : List Opn} {qs : List Int} (hw : WfL l) :
    (∃ E e, E.length ≤ 4611686018427387904 ∧ (Evt fun k => layers_Early.f k q b l = some (E, e)) ∧ Evt fun k => phasorref19_Early.f k q b l = some (E, e)) ∧
    (∃ E e, E.length ≤ 4611686018427387904 ∧ (Evt fun k => layers_Late.f k q b l = some (E, e)) ∧ Evt fun k => phasorref19_Late.f k q b l = some (E, e)) ∧
    (∃ E e, E.length ≤ 4611686018427387904 ∧ (Evt fun k => layers_Past.f k q b l qs = some (E, e)) ∧ Evt fun k => phasorref19_Past.f k q b l qs = some (E, e)) ∧
    (∃ E e, E.length ≤ 4611686018427387904 ∧ (Evt fun k => layers_Future.f k q b l qs = some (E, e)) ∧ Evt fun k => phasorref19_Future.f k q b l qs = some (E, e)) ∧
    (∃ D e, (Evt fun k => layers_Depth.f k q b l = some (D, e)) ∧ Evt fun k => phasorref19_Depth.f k q b l = some (D, e)) := by
  have cone : ∀ back, ∃ E e, E.length ≤ 4611686018427387904 ∧ Evt fun k => layers_cone.f k q b l qs back = some (E, e) ∧ phasorref19_cone.f k q b l qs back = some (E, e) := fun back => by
    cases h : okc q b l
    · exact ⟨[], 80, by simp, cone_no back hw h⟩
    · obtain ⟨r, e, h1, _, _, h2⟩ := cone_is (qs := qs) back hw (okc_facts h)
      exact ⟨r, e, by omega, h2⟩
  have hp : ∃ E e, E.length ≤ 4611686018427387904 ∧ (Evt fun k => layers_Past.f k q b l qs = some (E, e)) ∧ Evt fun k => phasorref19_Past.f k q b l qs = some (E, e) := by
    obtain ⟨E, e, h0, h1⟩ := cone true
    exact ⟨E, e, h0, h1.mono fun k hk => by unfold layers_Past.f; rw [hk.1]; rfl, h1.mono fun k hk => by unfold phasorref19_Past.f; rw [hk.2]; rfl⟩
  have hf : ∃ E e, E.length ≤ 4611686018427387904 ∧ (Evt fun k => layers_Future.f k q b l qs = some (E, e)) ∧ Evt fun k => phasorref19_Future.f k q b l qs = some (E, e) := by
    obtain ⟨E, e, h0, h1⟩ := cone false
    exact ⟨E, e, h0, h1.mono fun k hk => by unfold layers_Future.f; rw [hk.1]; rfl, h1.mono fun k hk => by unfold phasorref19_Future.f; rw [hk.2]; rfl⟩
  cases h : okc q b l
  · exact ⟨⟨[], 80, by simp, early_no hw h, rearly_no hw h⟩, ⟨[], 80, by simp, late_no hw h, rlate_no hw h⟩, hp, hf, ⟨0, 80, depth_no hw h, rdepth_no hw h⟩⟩
  · have hc := okc_facts h
    have hn := hc.n
    obtain ⟨E, e1, e2, e3, e4⟩ := Early_is hw hc
    obtain ⟨D, d1, d2, d3, d4⟩ := Depth_is e1 e2 e3
    obtain ⟨L, b1, b2, b3⟩ := Late_is hc d1 d2 d3
    have re := rearly_is hw hc e2 e4
    have rd := rdepth_of re (fun x hx => (e3 x hx).1) (by omega) (d4.congr fun x => by rw [e2])
    exact ⟨⟨E, 0, by omega, e1, re⟩, ⟨L, 0, by omega, b1, rlate_is hc rd d2 d3 b2 b3⟩, hp, hf, ⟨D, 0, d1, rd⟩⟩
set_option maxHeartbeats 8000000 in
set_option maxRecDepth 1000000 in
theorem tell_walk (q b : Int) (A : Option Addr) (c : Nat) (l : List Opn) (B : Option Addr) (cq : Nat) (qs : List Int) (w : World) (hC : Kd.C k46 w A l.length l) (hc : l.length ≤ c) (hw : WfL l) (hn : l.length < 2199023255552) (hf : ∀ o ∈ l, o.f2.length < 17592186044416) (hQ : Kd.C (Kd.int .i64) w B qs.length qs) (hcq : qs.length ≤ cq) (hqn : qs.length < 17592186044416) :
    Calls Try.prog 5 #[.agg #[.int .i64 q, .int .i64 b, .slice A l.length c], .slice B qs.length cq] w fun e w' => e = .returned (.bool true) ∧ Below w.heap.size w w' := by
  have hu24 := Try.underlying24
  obtain ⟨⟨E1, e1, n1, f1, g1⟩, ⟨E2, e2, n2, f2, g2⟩, ⟨E3, e3, n3, f3, g3⟩, ⟨E4, e4, n4, f4, g4⟩, ⟨D, e5, f5, g5⟩⟩ := tell_facts (q := q) (b := b) (qs := qs) hw
  obtain ⟨kf1, f1⟩ := f1.get
  obtain ⟨kg1, g1⟩ := g1.get
  obtain ⟨kf2, f2⟩ := f2.get
  obtain ⟨kg2, g2⟩ := g2.get
  obtain ⟨kf3, f3⟩ := f3.get
  obtain ⟨kg3, g3⟩ := g3.get
  obtain ⟨kf4, f4⟩ := f4.get
  obtain ⟨kg4, g4⟩ := g4.get
  obtain ⟨kf5, f5⟩ := f5.get
  obtain ⟨kg5, g5⟩ := g5.get
  obtain ⟨kc, hk0⟩ := (rcopy_is (q := q) (b := b) hf hn).get
  obtain ⟨ks, hs0⟩ := (same_is (q := q) (b := b) hf hn).get
  obtain ⟨ki, hi0⟩ := (ints19_is (l := qs) (by omega)).get
  have N1 := Aside0.mk n1
  have N2 := Aside0.mk n2
  have N3 := Aside0.mk n3
  have N4 := Aside0.mk n4
  have F1 := Aside0.mk f1
  have G1 := Aside0.mk g1
  have F2 := Aside0.mk f2
  have G2 := Aside0.mk g2
  have F3 := Aside0.mk f3
  have G3 := Aside0.mk g3
  have F4 := Aside0.mk f4
  have G4 := Aside0.mk g4
  have F5 := Aside0.mk f5
  have G5 := Aside0.mk g5
  have FC := Aside0.mk hk0
  have FS := Aside0.mk hs0
  have FI := Aside0.mk hi0
  have HR := Aside0.mk hC
  have HS := Aside0.mk hc
  have HQ := Aside0.mk hQ
  have HQC := Aside0.mk hcq
  have HQN := Aside0.mk hqn
  clear n1 n2 n3 n4 f1 f2 f3 f4 f5 g1 g2 g3 g4 g5 hk0 hs0 hi0 hC hc hw hn hf hQ hcq hqn
  go_enter Try.func5, Try.ntmps5
  go_upto_region 2 with (go_at_call 7; (with_reducible refine (phasorref08_Copy.calls kc q b _ _ l _ _ _ _ (Kd.C_alloc HR.out _) HS.out FC.out).mono ?_); rintro er w1 ⟨v1, rfl, ho1, hb1⟩; obtain ⟨Ax, cx, rfl⟩ := Kd.S_slice ho1; have HO1 := Aside0.mk ho1; clear ho1)
  have b0 := blk_new w (.cells #[.int .i64 q, .int .i64 b, .slice A l.length c] 24)
  have bx := blk_new w1 (.cells #[.int .i64 q, .int .i64 b, .slice Ax l.length cx] 24)
  replace b0 := blk_alloc (blk_below b0 hb1) (.cells #[.int .i64 q, .int .i64 b, .slice Ax l.length cx] 24)
  have hb2 := below_alloc (below_step (below_alloc (Below.refl w.heap.size w) (.cells #[.int .i64 q, .int .i64 b, .slice A l.length c] 24)) hb1) (.cells #[.int .i64 q, .int .i64 b, .slice Ax l.length cx] 24)
  have HX := Aside0.mk (Kd.S_reads' HO1.out).2.1
  have CX := Aside0.mk (Kd.C_alloc (Kd.S_reads' HO1.out).2.2 (.cells #[.int .i64 q, .int .i64 b, .slice Ax l.length cx] 24))
  have CC := Aside0.mk (Kd.C_below HR.out hb2)
  have CQ := Aside0.mk (Kd.C_below HQ.out hb2)
  have B0 := Aside0.mk b0
  have BX := Aside0.mk bx
  have HB := Aside0.mk hb2
  clear hb1 hb2 b0 bx HO1
  generalize w.heap.size = gc at B0 ⊢
  generalize w1.heap.size = gx at BX ⊢
  generalize w1.alloc _ = w2 at CX CC CQ B0 BX HB ⊢
  go_upto_region 3 with (first | ((with_reducible refine gate_dst (N := 18) rfl ?_); refine Kd.R_lit (Kd.int .i64) _ 3 ?hg (N := 18) ?hd (xs := ([] : List Int)) (inner := []) (ok := fun _ => True) (okp := fun _ => True) ?hr ?hp (fun _ hk => hk) trivial (Below.refl _ _) (Nat.le_refl _) (by simp) ?_; (case hd => rfl); (case hg => rfl); (case hr => first | (go_simp; done) | (go_simp; rfl)); (case hp => exact (Reps.none _ _)); intro v18 w16 ho17 hb17 hg_ hnew_; clear hg_ hnew_; have O17 := Aside0.mk ho17; have HB17 := Aside0.mk hb17; clear ho17 hb17) | ((with_reducible refine gate_builtin (b := .append) (xs := #[.tmp 18, .tmp 19]) rfl ?_); at_builtin; refine Kd.R_append_rows (Kd.int .i64) (w0 := w2) w2.heap.size rfl (.tmp 18) (.tmp 19) 37 3 (.int .i64 0) 8 rfl Try.underlying37 info3 rfl (by decide) (by omega) v18 [] qs _ _ _ (fun _ => True) (fun _ => False) rfl rfl ?aO ?aR (fun _ _ h => h) (fun _ h => h.elim) ?aF ?aB ?aS ?aL ?_; (case aR => exact Kd.C_below CQ.out HB17.out); (case aB => exact HB17.out); (case aF => exact (fun _ _ => trivial)); (case aO => exact O17.out); (case aS => exact HB17.out.size); (case aL => have := HQN.out; simp only [List.length_nil]; omega); intro v20 w18 ho hb hg hat; clear hg hat; rw [List.nil_append] at ho; obtain ⟨Bq, cb, rfl⟩ := Kd.R_slice ho; have O20 := Aside0.mk ho; have HB20 := Aside0.mk hb; clear ho hb))
  have S0 : Aside0 (TellS w gc gx q b A Ax c cx l B Bq qs w18) := Aside0.mk ⟨below_step HB.out HB20.out, blk_below B0.out HB20.out, blk_below BX.out HB20.out, Kd.C_below CC.out HB20.out, Kd.C_below CX.out HB20.out, Kd.C_below CQ.out HB20.out, (Kd.R_reads' O20.out).2.2⟩
  have HQX := Aside0.mk (Kd.R_reads' O20.out).2.1
  clear HB CC CX CQ B0 BX O17 HB17 O20 HB20
  have bx0 : w18.cell? ⟨gx, 0, none⟩ = some (.int .i64 q) := by rw [blk_cell S0.out.bx]; rfl
  have bx1 : w18.cell? ⟨gx, 1, none⟩ = some (.int .i64 b) := by rw [blk_cell S0.out.bx]; rfl
  have bx2 : w18.cell? ⟨gx, 2, none⟩ = some (.slice Ax l.length cx) := by rw [blk_cell S0.out.bx]; rfl
  have bc0 : w18.cell? ⟨gc, 0, none⟩ = some (.int .i64 q) := by rw [blk_cell S0.out.bc]; rfl
  have bc1 : w18.cell? ⟨gc, 1, none⟩ = some (.int .i64 b) := by rw [blk_cell S0.out.bc]; rfl
  have bc2 : w18.cell? ⟨gc, 2, none⟩ = some (.slice A l.length c) := by rw [blk_cell S0.out.bc]; rfl
  go_upto_region 4 with (go_at_call 21; (with_reducible refine (layers_Early.calls kf1 q b _ _ l _ _ _ S0.out.cx HX.out F1.out).mono ?_); rintro er wa1 ⟨u1, rfl, ho1, hb1⟩)
  obtain ⟨A1, c1, rfl⟩ := Kd.R_slice ho1
  have SA1 := Aside0.mk (S0.out.below hb1)
  have OA1 := Aside0.mk ho1
  have BA1 := Aside0.mk hb1
  clear ho1 hb1
  clear bx0 bx1 bx2 bc0 bc1 bc2
  have bx0 : wa1.cell? ⟨gx, 0, none⟩ = some (.int .i64 q) := by rw [blk_cell SA1.out.bx]; rfl
  have bx1 : wa1.cell? ⟨gx, 1, none⟩ = some (.int .i64 b) := by rw [blk_cell SA1.out.bx]; rfl
  have bx2 : wa1.cell? ⟨gx, 2, none⟩ = some (.slice Ax l.length cx) := by rw [blk_cell SA1.out.bx]; rfl
  have bc0 : wa1.cell? ⟨gc, 0, none⟩ = some (.int .i64 q) := by rw [blk_cell SA1.out.bc]; rfl
  have bc1 : wa1.cell? ⟨gc, 1, none⟩ = some (.int .i64 b) := by rw [blk_cell SA1.out.bc]; rfl
  have bc2 : wa1.cell? ⟨gc, 2, none⟩ = some (.slice A l.length c) := by rw [blk_cell SA1.out.bc]; rfl
  go_upto_region 5 with (go_at_call 28; (with_reducible refine (phasorref19_Early.calls kg1 q b _ _ l _ _ _ SA1.out.cc HS.out G1.out).mono ?_); rintro er wb1 ⟨y1, rfl, ho2, hb2⟩)
  obtain ⟨A1', c1', rfl⟩ := Kd.R_slice ho2
  have OB1 := Aside0.mk ho2
  have BB1 := Aside0.mk hb2
  clear ho2 hb2
  clear bx0 bx1 bx2 bc0 bc1 bc2
  go_upto_region 7 with (go_at_call 29; (with_reducible refine (told_step N1.out OA1.out BA1.out OB1.out BB1.out).mono ?_); rintro er wc1 ⟨rfl, hb3⟩)
  have S1 := Aside0.mk (S0.out.below hb3)
  clear hb3 OA1 BA1 OB1 BB1 SA1 S0
  have bx0 : wc1.cell? ⟨gx, 0, none⟩ = some (.int .i64 q) := by rw [blk_cell S1.out.bx]; rfl
  have bx1 : wc1.cell? ⟨gx, 1, none⟩ = some (.int .i64 b) := by rw [blk_cell S1.out.bx]; rfl
  have bx2 : wc1.cell? ⟨gx, 2, none⟩ = some (.slice Ax l.length cx) := by rw [blk_cell S1.out.bx]; rfl
  have bc0 : wc1.cell? ⟨gc, 0, none⟩ = some (.int .i64 q) := by rw [blk_cell S1.out.bc]; rfl
  have bc1 : wc1.cell? ⟨gc, 1, none⟩ = some (.int .i64 b) := by rw [blk_cell S1.out.bc]; rfl
  have bc2 : wc1.cell? ⟨gc, 2, none⟩ = some (.slice A l.length c) := by rw [blk_cell S1.out.bc]; rfl
  go_upto_region 8 with (go_at_call 22; (with_reducible refine (layers_Late.calls kf2 q b _ _ l _ _ _ S1.out.cx HX.out F2.out).mono ?_); rintro er wa2 ⟨u2, rfl, ho1, hb1⟩)
  obtain ⟨A2, c2, rfl⟩ := Kd.R_slice ho1
  have SA2 := Aside0.mk (S1.out.below hb1)
  have OA2 := Aside0.mk ho1
  have BA2 := Aside0.mk hb1
  clear ho1 hb1
  clear bx0 bx1 bx2 bc0 bc1 bc2
  have bx0 : wa2.cell? ⟨gx, 0, none⟩ = some (.int .i64 q) := by rw [blk_cell SA2.out.bx]; rfl
  have bx1 : wa2.cell? ⟨gx, 1, none⟩ = some (.int .i64 b) := by rw [blk_cell SA2.out.bx]; rfl
  have bx2 : wa2.cell? ⟨gx, 2, none⟩ = some (.slice Ax l.length cx) := by rw [blk_cell SA2.out.bx]; rfl
  have bc0 : wa2.cell? ⟨gc, 0, none⟩ = some (.int .i64 q) := by rw [blk_cell SA2.out.bc]; rfl
  have bc1 : wa2.cell? ⟨gc, 1, none⟩ = some (.int .i64 b) := by rw [blk_cell SA2.out.bc]; rfl
  have bc2 : wa2.cell? ⟨gc, 2, none⟩ = some (.slice A l.length c) := by rw [blk_cell SA2.out.bc]; rfl
  go_upto_region 9 with (go_at_call 30; (with_reducible refine (phasorref19_Late.calls kg2 q b _ _ l _ _ _ SA2.out.cc HS.out G2.out).mono ?_); rintro er wb2 ⟨y2, rfl, ho2, hb2⟩)
  obtain ⟨A2', c2', rfl⟩ := Kd.R_slice ho2
  have OB2 := Aside0.mk ho2
  have BB2 := Aside0.mk hb2
  clear ho2 hb2
  clear bx0 bx1 bx2 bc0 bc1 bc2
  go_upto_region 11 with (go_at_call 29; (with_reducible refine (told_step N2.out OA2.out BA2.out OB2.out BB2.out).mono ?_); rintro er wc2 ⟨rfl, hb3⟩)
  have S2 := Aside0.mk (S1.out.below hb3)
  clear hb3 OA2 BA2 OB2 BB2 SA2 S1
  have bx0 : wc2.cell? ⟨gx, 0, none⟩ = some (.int .i64 q) := by rw [blk_cell S2.out.bx]; rfl
  have bx1 : wc2.cell? ⟨gx, 1, none⟩ = some (.int .i64 b) := by rw [blk_cell S2.out.bx]; rfl
  have bx2 : wc2.cell? ⟨gx, 2, none⟩ = some (.slice Ax l.length cx) := by rw [blk_cell S2.out.bx]; rfl
  have bc0 : wc2.cell? ⟨gc, 0, none⟩ = some (.int .i64 q) := by rw [blk_cell S2.out.bc]; rfl
  have bc1 : wc2.cell? ⟨gc, 1, none⟩ = some (.int .i64 b) := by rw [blk_cell S2.out.bc]; rfl
  have bc2 : wc2.cell? ⟨gc, 2, none⟩ = some (.slice A l.length c) := by rw [blk_cell S2.out.bc]; rfl
  go_upto_region 12 with (go_at_call 31; (with_reducible refine (layers_Past.calls kf3 q b _ _ l Bq cb qs _ _ _ S2.out.cx HX.out S2.out.hqx HQX.out F3.out).mono ?_); rintro er wa3 ⟨u3, rfl, ho1, hb1⟩)
  obtain ⟨A3, c3, rfl⟩ := Kd.R_slice ho1
  have SA3 := Aside0.mk (S2.out.below hb1)
  have OA3 := Aside0.mk ho1
  have BA3 := Aside0.mk hb1
  clear ho1 hb1
  clear bx0 bx1 bx2 bc0 bc1 bc2
  have bx0 : wa3.cell? ⟨gx, 0, none⟩ = some (.int .i64 q) := by rw [blk_cell SA3.out.bx]; rfl
  have bx1 : wa3.cell? ⟨gx, 1, none⟩ = some (.int .i64 b) := by rw [blk_cell SA3.out.bx]; rfl
  have bx2 : wa3.cell? ⟨gx, 2, none⟩ = some (.slice Ax l.length cx) := by rw [blk_cell SA3.out.bx]; rfl
  have bc0 : wa3.cell? ⟨gc, 0, none⟩ = some (.int .i64 q) := by rw [blk_cell SA3.out.bc]; rfl
  have bc1 : wa3.cell? ⟨gc, 1, none⟩ = some (.int .i64 b) := by rw [blk_cell SA3.out.bc]; rfl
  have bc2 : wa3.cell? ⟨gc, 2, none⟩ = some (.slice A l.length c) := by rw [blk_cell SA3.out.bc]; rfl
  go_upto_region 13 with (go_at_call 32; (with_reducible refine (phasorref19_Past.calls kg3 q b _ _ l B cq qs _ _ _ SA3.out.cc HS.out SA3.out.hq HQC.out G3.out).mono ?_); rintro er wb3 ⟨y3, rfl, ho2, hb2⟩)
  obtain ⟨A3', c3', rfl⟩ := Kd.R_slice ho2
  have OB3 := Aside0.mk ho2
  have BB3 := Aside0.mk hb2
  clear ho2 hb2
  clear bx0 bx1 bx2 bc0 bc1 bc2
  go_upto_region 15 with (go_at_call 29; (with_reducible refine (told_step N3.out OA3.out BA3.out OB3.out BB3.out).mono ?_); rintro er wc3 ⟨rfl, hb3⟩)
  have S3 := Aside0.mk (S2.out.below hb3)
  clear hb3 OA3 BA3 OB3 BB3 SA3 S2
  have bx0 : wc3.cell? ⟨gx, 0, none⟩ = some (.int .i64 q) := by rw [blk_cell S3.out.bx]; rfl
  have bx1 : wc3.cell? ⟨gx, 1, none⟩ = some (.int .i64 b) := by rw [blk_cell S3.out.bx]; rfl
  have bx2 : wc3.cell? ⟨gx, 2, none⟩ = some (.slice Ax l.length cx) := by rw [blk_cell S3.out.bx]; rfl
  have bc0 : wc3.cell? ⟨gc, 0, none⟩ = some (.int .i64 q) := by rw [blk_cell S3.out.bc]; rfl
  have bc1 : wc3.cell? ⟨gc, 1, none⟩ = some (.int .i64 b) := by rw [blk_cell S3.out.bc]; rfl
  have bc2 : wc3.cell? ⟨gc, 2, none⟩ = some (.slice A l.length c) := by rw [blk_cell S3.out.bc]; rfl
  go_upto_region 16 with (go_at_call 33; (with_reducible refine (layers_Future.calls kf4 q b _ _ l Bq cb qs _ _ _ S3.out.cx HX.out S3.out.hqx HQX.out F4.out).mono ?_); rintro er wa4 ⟨u4, rfl, ho1, hb1⟩)
  obtain ⟨A4, c4, rfl⟩ := Kd.R_slice ho1
  have SA4 := Aside0.mk (S3.out.below hb1)
  have OA4 := Aside0.mk ho1
  have BA4 := Aside0.mk hb1
  clear ho1 hb1
  clear bx0 bx1 bx2 bc0 bc1 bc2
  have bx0 : wa4.cell? ⟨gx, 0, none⟩ = some (.int .i64 q) := by rw [blk_cell SA4.out.bx]; rfl
  have bx1 : wa4.cell? ⟨gx, 1, none⟩ = some (.int .i64 b) := by rw [blk_cell SA4.out.bx]; rfl
  have bx2 : wa4.cell? ⟨gx, 2, none⟩ = some (.slice Ax l.length cx) := by rw [blk_cell SA4.out.bx]; rfl
  have bc0 : wa4.cell? ⟨gc, 0, none⟩ = some (.int .i64 q) := by rw [blk_cell SA4.out.bc]; rfl
  have bc1 : wa4.cell? ⟨gc, 1, none⟩ = some (.int .i64 b) := by rw [blk_cell SA4.out.bc]; rfl
  have bc2 : wa4.cell? ⟨gc, 2, none⟩ = some (.slice A l.length c) := by rw [blk_cell SA4.out.bc]; rfl
  go_upto_region 17 with (go_at_call 34; (with_reducible refine (phasorref19_Future.calls kg4 q b _ _ l B cq qs _ _ _ SA4.out.cc HS.out SA4.out.hq HQC.out G4.out).mono ?_); rintro er wb4 ⟨y4, rfl, ho2, hb2⟩)
  obtain ⟨A4', c4', rfl⟩ := Kd.R_slice ho2
  have OB4 := Aside0.mk ho2
  have BB4 := Aside0.mk hb2
  clear ho2 hb2
  clear bx0 bx1 bx2 bc0 bc1 bc2
  go_upto_region 19 with (go_at_call 29; (with_reducible refine (told_step N4.out OA4.out BA4.out OB4.out BB4.out).mono ?_); rintro er wc4 ⟨rfl, hb3⟩)
  have S4 := Aside0.mk (S3.out.below hb3)
  clear hb3 OA4 BA4 OB4 BB4 SA4 S3
  have bx0 : wc4.cell? ⟨gx, 0, none⟩ = some (.int .i64 q) := by rw [blk_cell S4.out.bx]; rfl
  have bx1 : wc4.cell? ⟨gx, 1, none⟩ = some (.int .i64 b) := by rw [blk_cell S4.out.bx]; rfl
  have bx2 : wc4.cell? ⟨gx, 2, none⟩ = some (.slice Ax l.length cx) := by rw [blk_cell S4.out.bx]; rfl
  have bc0 : wc4.cell? ⟨gc, 0, none⟩ = some (.int .i64 q) := by rw [blk_cell S4.out.bc]; rfl
  have bc1 : wc4.cell? ⟨gc, 1, none⟩ = some (.int .i64 b) := by rw [blk_cell S4.out.bc]; rfl
  have bc2 : wc4.cell? ⟨gc, 2, none⟩ = some (.slice A l.length c) := by rw [blk_cell S4.out.bc]; rfl
  go_upto_region 20 with (go_at_call 23; (with_reducible refine (layers_Depth.calls kf5 q b _ _ l _ _ _ S4.out.cx HX.out F5.out).mono ?_); rintro er wd1 ⟨rfl, hb1⟩)
  have T1 := Aside0.mk (S4.out.below hb1)
  clear hb1
  clear bx0 bx1 bx2 bc0 bc1 bc2
  have bx0 : wd1.cell? ⟨gx, 0, none⟩ = some (.int .i64 q) := by rw [blk_cell T1.out.bx]; rfl
  have bx1 : wd1.cell? ⟨gx, 1, none⟩ = some (.int .i64 b) := by rw [blk_cell T1.out.bx]; rfl
  have bx2 : wd1.cell? ⟨gx, 2, none⟩ = some (.slice Ax l.length cx) := by rw [blk_cell T1.out.bx]; rfl
  have bc0 : wd1.cell? ⟨gc, 0, none⟩ = some (.int .i64 q) := by rw [blk_cell T1.out.bc]; rfl
  have bc1 : wd1.cell? ⟨gc, 1, none⟩ = some (.int .i64 b) := by rw [blk_cell T1.out.bc]; rfl
  have bc2 : wd1.cell? ⟨gc, 2, none⟩ = some (.slice A l.length c) := by rw [blk_cell T1.out.bc]; rfl
  go_upto_region 21 with (go_at_call 35; (with_reducible refine (phasorref19_Depth.calls kg5 q b _ _ l _ _ _ T1.out.cc HS.out G5.out).mono ?_); rintro er wd2 ⟨rfl, hb2⟩)
  have T2 := Aside0.mk (T1.out.below hb2)
  clear hb2
  clear bx0 bx1 bx2 bc0 bc1 bc2
  go_upto_region 22 with (go_at_call 36; (with_reducible refine (phasorlaw19_ints.calls ki _ _ qs _ _ qs _ _ T2.out.hqx HQX.out T2.out.hq HQC.out FI.out).mono ?_); rintro er wd3 ⟨rfl, hd3⟩)
  have T3 := Aside0.mk (T2.out.below hd3.below)
  clear hd3
  have bx0 : wd3.cell? ⟨gx, 0, none⟩ = some (.int .i64 q) := by rw [blk_cell T3.out.bx]; rfl
  have bx1 : wd3.cell? ⟨gx, 1, none⟩ = some (.int .i64 b) := by rw [blk_cell T3.out.bx]; rfl
  have bx2 : wd3.cell? ⟨gx, 2, none⟩ = some (.slice Ax l.length cx) := by rw [blk_cell T3.out.bx]; rfl
  have bc0 : wd3.cell? ⟨gc, 0, none⟩ = some (.int .i64 q) := by rw [blk_cell T3.out.bc]; rfl
  have bc1 : wd3.cell? ⟨gc, 1, none⟩ = some (.int .i64 b) := by rw [blk_cell T3.out.bc]; rfl
  have bc2 : wd3.cell? ⟨gc, 2, none⟩ = some (.slice A l.length c) := by rw [blk_cell T3.out.bc]; rfl
  go_wp2_with (first | (go_at_call 19; (with_reducible refine (phasorref08_Same.calls ks q b _ _ l q b _ _ l _ _ T3.out.cx HX.out T3.out.cc HS.out FS.out).mono ?_); rintro er wd4 ⟨rfl, hb4⟩) | (go_at_call 25; (with_reducible refine (heads_any _).mono ?_); rintro er wd5 ⟨rfl, hb5⟩))
  go_ret
  exact ⟨rfl, below_step (below_step T3.out.hb hb4) hb5⟩
theorem tell_row (q b : Int) (A : Option Addr) (c : Nat) (l : List Opn) (B : Option Addr) (cq : Nat) (qs : List Int) (w : World) (hC : Kd.C k46 w A l.length l) (hc : l.length ≤ c) (hw : WfL l) (hn : l.length * 64 ≤ 140737488351232) (hf : ∀ o ∈ l, o.f2.length * 8 ≤ 140737488351232) (hQ : Kd.C (Kd.int .i64) w B qs.length qs) (hcq : qs.length ≤ cq) (hqn : qs.length * 8 ≤ 140737488351232) :
    Calls Try.prog 5 #[.agg #[.int .i64 q, .int .i64 b, .slice A l.length c], .slice B qs.length cq] w fun e w' => e = .returned (.bool true) ∧ Below w.heap.size w w' :=
  tell_walk q b A c l B cq qs w hC hc hw (by omega) (fun o ho => by have := hf o ho; omega) hQ hcq (by omega)
end Go.Proofs.Ytbelnopbggkdfaa.Q
end

section
namespace Go.Proofs.Ytbelnopbggkdfaa.Q
open Go.ChangeShapes Go.WideShapes Go.ChangeAt Go.Deep Go.Joins
open Go.RowKit Go.Proofs.YtbelnopbggkdfaaW.PrintWords Go.Proofs.YtbelnopbggkdfaaW.PrintLast Go.Proofs.YtbelnopbggkdfaaW.PrintMore
section
variable {H : Type} {enc : TypeId × Value → H} {W : World} {spare : Nat → Bool} {held : Bool}
theorem cells1 : Try.prog.cellsOf 3 = 1 := by kernel_rfl
theorem cells6 : Try.prog.cellsOf 46 = 6 := by kernel_rfl
theorem cells1k : Try.prog.cellsOf 44 = 1 := by kernel_rfl
theorem cells1o : Try.prog.cellsOf 43 = 1 := by kernel_rfl
theorem cells1s : Try.prog.cellsOf 37 = 1 := by kernel_rfl
end
end Go.Proofs.Ytbelnopbggkdfaa.Q
end

section
namespace Go.Proofs.Ytbelnopbggkdfaa.Q
open Go.ChangeShapes Go.WideShapes Go.ChangeAt Go.Deep Go.Joins
open Go.RowKit Go.Proofs.YtbelnopbggkdfaaW.PrintWords Go.Proofs.YtbelnopbggkdfaaW.PrintLast Go.Proofs.YtbelnopbggkdfaaW.PrintMore
section
variable {H : Type} {enc : TypeId × Value → H} {W : World} {spare : Nat → Bool} {held : Bool}
theorem weights_mem_all {P : Program} {e : TypeId} : ∀ {ds : List (DataW H)} {d : DataW H} {n : Nat}, d ∈ ds → n ∈ d.weights P e → n ∈ DataW.weightsAll P e ds
  | d0 :: ds, d, n, hd, hn => by
    simp only [DataW.weightsAll, List.mem_append]
    rcases List.mem_cons.1 hd with rfl | hd
    · exact .inl hn
    · exact .inr (weights_mem_all hd hn)
theorem bytes8 : Try.prog.bytesOf 3 = 8 := by kernel_rfl
theorem bytes64 : Try.prog.bytesOf 46 = 64 := by kernel_rfl
/-- A row of whole numbers. -/
theorem open_intsS {fuel : Nat} {cs : List Value} {x : DataW H × List MemPlace} (h : DataW.trod enc Try.prog W 0 (fun _ => true) held fuel 37 cs = some x) :
    ∃ (A : Option Addr) (c : Nat) (zs : List Int), cs = [.slice A zs.length c] ∧ zs.length ≤ c ∧ Kd.C (Kd.int .i64) W A zs.length zs ∧ (∀ z ∈ zs, (Lit.int .i64 z).wf = true) ∧ (∀ N, (∀ n ∈ x.1.weights Try.prog 37, n ≤ N) → zs.length * 8 ≤ N) := by
  rcases open_slice Try.underlying37 h with ⟨rfl, -⟩ | ⟨a, len, cap, m, n, D, Pl, rfl, -, hl, hm, hmm, hx, hi⟩
  · exact ⟨none, 0, [], rfl, Nat.le_refl _, Kd.C_nil _ _, by simp, by simp⟩
  · rw [if_pos rfl] at hmm
    subst hmm
    rw [cells1] at hi
    have hz : ∀ i, i < m → ∃ z, W.cell? (a.add i) = some (.int .i64 z) ∧ (Lit.int .i64 z).wf = true := fun i hi' => by
      obtain ⟨cs', hc, ht⟩ := hi i hi'
      obtain ⟨z, rfl, -, hw⟩ := DataW.trod_int Try.underlying3 ht
      obtain ⟨-, -, hat⟩ := World.cells?_some hc
      have := hat 0 (by decide)
      rw [Go.Deep.add_add, Nat.mul_one] at this
      exact ⟨z, by simpa using this, hw⟩
    have hz2 : ∀ i : Nat, ∃ z, i < m → W.cell? (a.add i) = some (.int .i64 z) ∧ (Lit.int .i64 z).wf = true := fun i => by
      by_cases h : i < m
      · obtain ⟨z, hz'⟩ := hz i h
        exact ⟨z, fun _ => hz'⟩
      · exact ⟨0, fun h' => absurd h' h⟩
    let g : Nat → Int := fun i => (hz2 i).choose
    have hg : ∀ i, i < m → W.cell? (a.add i) = some (.int .i64 (g i)) ∧ (Lit.int .i64 (g i)).wf = true := fun i h => (hz2 i).choose_spec h
    have hlen : ((List.range len).map g).length = len := by simp
    refine ⟨some a, m, (List.range len).map g, by rw [hlen], by rw [hlen]; exact hl, ?_, ?_, fun N hN => ?_⟩
    · rw [hlen]
      refine Kd.C_of_reads (enc := Value.int .i64) (d := (0 : Int)) (h1 := fun _ => rfl) ⟨hlen, Nat.le_trans hl hm, fun _ => ⟨a, rfl, fun j hj => ?_⟩⟩
      rw [(hg j (by omega)).1]
      simp [List.getD_eq_getElem?_getD, List.getElem?_map, List.getElem?_range hj]
    · intro z hz
      obtain ⟨i, hi', rfl⟩ := List.mem_map.1 hz
      exact (hg i (by have := List.mem_range.1 hi'; omega)).2
    · have := hN ((len + (m - len)) * Try.prog.bytesOf 3) (by rw [hx]; simp [DataW.weights, Try.underlying37])
      rw [bytes8] at this
      rw [hlen]
      omega
set_option maxRecDepth 100000 in
/-- One operation. -/
theorem open_opS {fuel : Nat} {cs : List Value} {x : DataW H × List MemPlace} (h : DataW.trod enc Try.prog W 0 (fun _ => true) held fuel 46 cs = some x) :
    ∃ o : Opn, Kd.K k46 W o cs ∧ (Lit.int .i64 o.f1).wf = true ∧ cs.length = 6 ∧ (∀ N, (∀ n ∈ x.1.weights Try.prog 46, n ≤ N) → o.f2.length * 8 ≤ N) := by
  obtain ⟨xs, n, -, hxx, hlen, hxl, hf⟩ := DataW.trod_struct Try.underlying46 h
  rw [cells6] at hlen
  match cs, hlen with
  | [u0, u1, u2, u3, u4, u5], _ =>
    have hx : ∀ i, i < 6 → ∃ y, xs[i]? = some y := fun i hi => ⟨xs[i]'(by rw [hxl]; exact hi), List.getElem?_eq_getElem _⟩
    obtain ⟨y0, hy0⟩ := hx 0 (by decide)
    have h0 := (hf 0 _ rfl).trans hy0
    obtain ⟨y1, hy1⟩ := hx 1 (by decide)
    have h1 := (hf 1 _ rfl).trans hy1
    obtain ⟨y2, hy2⟩ := hx 2 (by decide)
    have h2 := (hf 2 _ rfl).trans hy2
    obtain ⟨y3, hy3⟩ := hx 3 (by decide)
    have h3 := (hf 3 _ rfl).trans hy3
    obtain ⟨y4, hy4⟩ := hx 4 (by decide)
    have h4 := (hf 4 _ rfl).trans hy4
    obtain ⟨y5, hy5⟩ := hx 5 (by decide)
    have h5 := (hf 5 _ rfl).trans hy5
    simp only [List.getElem_toArray, List.getElem_cons_succ, List.getElem_cons_zero, cells1, cells1k, cells1o, cells1s, List.drop_zero, List.drop_succ_cons, List.take_succ_cons, List.take_zero] at h0 h1 h2 h3 h4 h5
    obtain ⟨z0, e0, -, w0⟩ := DataW.trod_int Try.underlying43 h0
    obtain ⟨z1, e1, -, w1⟩ := DataW.trod_int Try.underlying44 h1
    obtain ⟨A, c, zs, e2, hc, hC, -, hN⟩ := open_intsS h2
    obtain ⟨z3, e3, -, w3⟩ := DataW.trod_int Try.underlying3 h3
    obtain ⟨z4, e4, -, w4⟩ := DataW.trod_int Try.underlying3 h4
    obtain ⟨z5, e5, -, w5⟩ := DataW.trod_int Try.underlying3 h5
    cases e0; cases e1; cases e2; cases e3; cases e4; cases e5
    refine ⟨⟨z0, z1, zs, z3, z4, z5⟩, k46_mk W _ hc hC, w1, rfl, fun N hall => hN N fun n hn => hall n ?_⟩
    rw [hxx]
    simp only [DataW.weights, Try.underlying46]
    exact DataW.weights_mem_each (j := 2) (t := 37) (d := y2.1) rfl (by rw [List.getElem?_map, hy2]; rfl) n hn
set_option maxRecDepth 100000 in
/-- A circuit. -/
theorem open_circS {b0 : Nat} {v : Value} {d : DataW H} {p : List MemPlace} (hv : Value.okWide Try.prog W .any b0 24 v) (h : DataW.Trod enc Try.prog W 0 (fun _ => true) held 24 v d p) {N : Nat} (hN : ∀ n ∈ d.weights Try.prog 24, n ≤ N) :
    ∃ (q b : Int) (A : Option Addr) (c : Nat) (l : List Opn), v = .agg #[.int .i64 q, .int .i64 b, .slice A l.length c] ∧ l.length ≤ c ∧ Kd.C k46 W A l.length l ∧ WfL l ∧ l.length * 64 ≤ N ∧ ∀ o ∈ l, o.f2.length * 8 ≤ N := by
  obtain ⟨v0, v1, v2, y0, y1, y2, n, rfl, hd, -, h0, h1, h2⟩ := open_agg3 Try.underlying24 (by kernel_rfl) (by kernel_rfl) hv h
  have hN2 : ∀ n ∈ y2.1.weights Try.prog 22, n ≤ N := fun n hn => hN n (by
    rw [hd]
    simp only [DataW.weights, Try.underlying24]
    exact DataW.weights_mem_each (j := 2) (t := 22) (d := y2.1) rfl rfl n hn)
  obtain ⟨q, e0, -, -⟩ := DataW.trod_int Try.underlying3 h0
  obtain ⟨b, e1, -, -⟩ := DataW.trod_int Try.underlying3 h1
  cases e0; cases e1
  rcases open_slice Try.underlying22 h2 with ⟨e2, -⟩ | ⟨a, len, cap, m, n', D, Pl, e2, -, hl, hm, hmm, hx, hi⟩
  · cases e2
    exact ⟨q, b, none, 0, [], rfl, Nat.le_refl _, Kd.C_nil _ _, by simp [WfL], by simp, by simp⟩
  · cases e2
    rw [if_pos rfl] at hmm
    subst hmm
    rw [cells6] at hi
    have hz2 : ∀ i : Nat, ∃ o : Opn, i < m → ∃ cs, Kd.K k46 W o cs ∧ (Lit.int .i64 o.f1).wf = true ∧ cs.length = 6 ∧ (∀ j u, cs[j]? = some u → W.cell? (a.add (i * 6 + j)) = some u) ∧ ∀ N, (∀ n ∈ (D i).weights Try.prog 46, n ≤ N) → o.f2.length * 8 ≤ N := fun i => by
      by_cases h : i < m
      · obtain ⟨cs', hc, ht⟩ := hi i h
        obtain ⟨o, k1, k2, k3, k4⟩ := open_opS ht
        obtain ⟨-, hcl, hat⟩ := World.cells?_some hc
        refine ⟨o, fun _ => ⟨cs', k1, k2, k3, fun j u hu => ?_, k4⟩⟩
        have hj := (List.getElem?_eq_some_iff.1 hu).1
        rw [← Go.Deep.add_add, hat j (by omega), hu]
      · exact ⟨z46, fun h' => absurd h' h⟩
    let g : Nat → Opn := fun i => (hz2 i).choose
    have hg : ∀ i, i < m → ∃ cs, Kd.K k46 W (g i) cs ∧ (Lit.int .i64 (g i).f1).wf = true ∧ cs.length = 6 ∧ (∀ j u, cs[j]? = some u → W.cell? (a.add (i * 6 + j)) = some u) ∧ ∀ N, (∀ n ∈ (D i).weights Try.prog 46, n ≤ N) → (g i).f2.length * 8 ≤ N := fun i h => (hz2 i).choose_spec h
    have hlen : ((List.range len).map g).length = len := by simp
    refine ⟨q, b, some a, m, (List.range len).map g, by rw [hlen], by rw [hlen]; exact hl, ?_, ?_, ?_, ?_⟩
    · rw [hlen]
      refine ⟨hlen, Nat.le_trans hl hm, fun _ => ⟨a, rfl, fun j p hj => ?_⟩⟩
      have hjl := (List.getElem?_eq_some_iff.1 hj).1
      rw [hlen] at hjl
      have : p = g j := by
        simp [List.getElem?_map, List.getElem?_range hjl] at hj
        exact hj.symm
      subst this
      obtain ⟨cs, k1, -, k3, k4, -⟩ := hg j (by omega)
      exact ⟨cs, k3, k1, fun i u hu => k4 i u hu⟩
    · intro o ho
      obtain ⟨i, hi', rfl⟩ := List.mem_map.1 ho
      obtain ⟨_, _, k2, _⟩ := hg i (by have := List.mem_range.1 hi'; omega)
      exact k2
    · have := hN2 ((len + (m - len)) * Try.prog.bytesOf 46) (by rw [hx]; simp [DataW.weights, Try.underlying22])
      rw [bytes64] at this
      rw [hlen]
      omega
    · intro o ho
      obtain ⟨i, hi', rfl⟩ := List.mem_map.1 ho
      have hil := List.mem_range.1 hi'
      obtain ⟨_, _, _, _, _, k5⟩ := hg i (by omega)
      refine k5 N fun n hn => hN2 n ?_
      rw [hx]
      simp only [DataW.weights, Try.underlying22, List.mem_cons, List.mem_append]
      exact .inr (.inl (weights_mem_all (List.mem_map.2 ⟨i, hi', rfl⟩) hn))
end
end Go.Proofs.Ytbelnopbggkdfaa.Q
end
