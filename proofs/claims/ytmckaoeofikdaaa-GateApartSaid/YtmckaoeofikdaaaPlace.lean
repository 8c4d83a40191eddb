/- Commute's function literal: qubits become wires. What memory holds meanwhile. -/
import Derived.Test.YtmckaoeofikdaaaApart
import Derived.Test.YtmckaoeofikdaaaBits
import Derived.OneCell
namespace Go.Proofs.Ytmckaoeofikdaaa
open Go.RowKit Lift

section
def posF (ws : List Int) (q : Int) : Nat := if idxF ws q < 0 then ws.length else (idxF ws q).toNat
def growF (ws : List Int) (q : Int) : List Int := if idxF ws q < 0 then ws ++ [q] else ws
def pw (ws zs : List Int) : Nat → List Int
  | 0 => ws
  | k + 1 => growF (pw ws zs k) (zs.getD k 0)
def po (ws zs : List Int) : Nat → List Int
  | 0 => []
  | k + 1 => po ws zs k ++ [((posF (pw ws zs k) (zs.getD k 0) : Nat) : Int)]
theorem po_len (ws zs : List Int) (k : Nat) : (po ws zs k).length = k := by
  induction k with
  | zero => rfl
  | succ k ih => simp [po, ih]
theorem growF_len (ws : List Int) (q : Int) : (growF ws q).length ≤ ws.length + 1 := by
  unfold growF; split <;> simp
theorem pw_len (ws zs : List Int) (k : Nat) : (pw ws zs k).length ≤ ws.length + k := by
  induction k with
  | zero => exact Nat.le_refl _
  | succ k ih =>
    have := growF_len (pw ws zs k) (zs.getD k 0)
    show (growF _ _).length ≤ _
    omega

theorem slice_block {aw : Option Addr} {n c g : Nat} (h : (Value.slice aw n c).ownBlock = some g) : ∃ x, aw = some x ∧ x.block = g := by
  cases aw with
  | none => cases h
  | some x => exact ⟨x, rfl, by simpa [Value.ownBlock] using h⟩

structure PI (B Bw : Nat) (own : Option Nat) (w1 : World) (aw : Option Addr) (nw cw : Nat) (W : List Int) (ao : Option Addr) (no co : Nat) (O : List Int) (wx : World) : Prop where
  bel : Below B w1 wx
  kept : ∀ k, k < w1.heap.size → k ≠ Bw → some k ≠ own → wx.heap[k]? = w1.heap[k]?
  bw : B ≤ Bw ∧ B ≤ w1.heap.size
  box : wx.heap[Bw]? = some (.cells #[.slice aw nw cw] 60 (0, 0))
  row : wx.ownsRow B 3 1 (.slice aw nw cw) nw (W.map (.int .i64))
  roww : ∀ x, aw = some x → some x.block = own ∨ w1.heap.size ≤ x.block
  out : wx.ownsRow B 3 1 (.slice ao no co) no (O.map (.int .i64))
  outw : ∀ x, ao = some x → w1.heap.size ≤ x.block
  ne : ∀ x y, aw = some x → ao = some y → x.block ≠ y.block

theorem row_not_box {w : World} {B Bw : Nat} {u : Value} {x : Addr} {n c : Nat} {xs : List Value} (hb : w.heap[Bw]? = some (.cells #[u] 60 (0, 0))) (hr : w.ownsRow B 3 1 (.slice (some x) n c) n xs) : x.block ≠ Bw := by
  rcases hr.2 with ⟨h, _⟩ | ⟨g, cap, cur, hv, _, hg, _⟩
  · cases h
  · cases hv
    intro e
    simp only at e
    rw [e, hb] at hg
    injection hg with h1
    injection h1 with _ h2 _
    revert h2
    decide

variable {B Bw : Nat} {own : Option Nat} {w1 : World} {aw : Option Addr} {nw cw : Nat} {W : List Int} {ao : Option Addr} {no co : Nat} {O : List Int} {wx : World}

theorem PI.notBw (h : PI B Bw own w1 aw nw cw W ao no co O wx) : ∀ x, aw = some x → x.block ≠ Bw := fun x hx => by
  have h1 := h.row
  rw [hx] at h1
  exact row_not_box h.box h1
theorem PI.outBw (h : PI B Bw own w1 aw nw cw W ao no co O wx) : ∀ x, ao = some x → x.block ≠ Bw := fun x hx => by
  have h1 := h.out
  rw [hx] at h1
  exact row_not_box h.box h1
theorem PI.sz (h : PI B Bw own w1 aw nw cw W ao no co O wx) : B ≤ wx.heap.size := Nat.le_trans h.bw.2 h.bel.size
theorem PI.drew (h : PI B Bw own w1 aw nw cw W ao no co O wx) : PI B Bw own w1 aw nw cw W ao no co O wx.drew :=
  ⟨h.bel.drew, h.kept, h.bw, h.box, h.row, h.roww, h.out, h.outw, h.ne⟩

theorem PI.wire (h : PI B Bw own w1 aw nw cw W ao no co O wx) {o : Obj} {q : Int} {g cap : Nat} {w' : World}
    (h1 : w'.ownsRow B 3 1 (.slice (some ⟨g, 0, none⟩) (nw + 1) cap) (nw + 1) (W.map (.int .i64) ++ [.int .i64 q]))
    (h2 : (wx.alloc o).grownBy w' (Value.slice aw nw cw).ownBlock) (h3 : (Value.slice aw nw cw).ownBlock = some g ∨ g = wx.heap.size + 1) :
    PI B Bw own w1 (some ⟨g, 0, none⟩) (nw + 1) cap (W ++ [q]) ao no co O (w'.setCell ⟨Bw, 0, none⟩ (.slice (some ⟨g, 0, none⟩) (nw + 1) cap)) := by
  have hs := h.sz
  have hlt := lt_of_block h.box
  have hsz : (wx.alloc o).heap.size = wx.heap.size + 1 := by simp
  have hgB : g ≠ Bw := by
    rcases h3 with h3 | h3
    · obtain ⟨x, hx, rfl⟩ := slice_block h3
      exact h.notBw x hx
    · omega
  have hnB : some Bw ≠ (Value.slice aw nw cw).ownBlock := fun e => by
    obtain ⟨x, hx, hxb⟩ := slice_block e.symm
    exact h.notBw x hx hxb
  have hout : ∀ y, ao = some y → y.block < wx.heap.size := fun y hy => (h.out.lt y.block (by rw [hy]; rfl)).2
  refine ⟨?_, fun k hk hkB hko => ?_, h.bw, ?_, ?_, ?_, ?_, h.outw, ?_⟩
  · exact ((h.bel.alloc hs o).grown h2 (by omega) (fun k hk => (h.row.lt k hk).1)).setCell h.bw.1 _
  · rw [Below.heap_setCell _ _ _ _ hkB]
    have := h.bel.size
    rw [h2.block k (by omega) (fun e => by
      obtain ⟨x, hx, hxb⟩ := slice_block e.symm
      rcases h.roww x hx with hr | hr
      · exact hko (by rw [← hr, hxb])
      · omega)]
    rw [Below.heap_alloc _ _ _ (by omega)]
    exact h.kept k hk hkB hko
  · refine one_setCell (v := .slice aw nw cw) ?_
    rw [h2.block Bw (by omega) hnB, Below.heap_alloc _ _ _ hlt]
    exact h.box
  · rw [List.map_append]
    exact ownsRow_setCell_other h1 (by simpa [Value.ownBlock] using hgB) _
  · intro x hx
    cases hx
    rcases h3 with h3 | h3
    · obtain ⟨y, hy, hyb⟩ := slice_block h3
      rcases h.roww y hy with hr | hr
      · exact .inl (by rw [← hr, hyb])
      · exact .inr (by show w1.heap.size ≤ g; omega)
    · right
      have := h.bel.size
      show w1.heap.size ≤ g
      omega
  · refine ownsRow_setCell_other ((h.out.alloc o).kept h2 ?_) ?_ _
    · cases hao : ao with
      | none => exact .inl rfl
      | some y =>
        right
        intro e
        obtain ⟨x, hx, hxb⟩ := slice_block e.symm
        exact h.ne x y hx hao hxb
    · intro e
      obtain ⟨y, hy, hyb⟩ := slice_block e
      exact h.outBw y hy hyb
  · intro x y hx hy
    cases hx
    rcases h3 with h3 | h3
    · obtain ⟨x, hx, hxb⟩ := slice_block h3
      rw [← hxb]
      exact h.ne x y hx hy
    · have := hout y hy
      show g ≠ y.block
      omega

theorem PI.boxGrown (h : PI B Bw own w1 aw nw cw W ao no co O wx) {o : Obj} {w' : World} (h2 : (wx.alloc o).grownBy w' (Value.slice aw nw cw).ownBlock) : w'.heap[Bw]? = some (.cells #[.slice aw nw cw] 60 (0, 0)) := by
  have hlt := lt_of_block h.box
  have hsz : (wx.alloc o).heap.size = wx.heap.size + 1 := by simp
  rw [h2.block Bw (by omega) (fun e => by
    obtain ⟨x, hx, hxb⟩ := slice_block e.symm
    exact h.notBw x hx hxb), Below.heap_alloc _ _ _ hlt]
  exact h.box

theorem PI.push (h : PI B Bw own w1 aw nw cw W ao no co O wx) {o : Obj} {q : Int} {g cap : Nat} {w' : World}
    (h1 : w'.ownsRow B 3 1 (.slice (some ⟨g, 0, none⟩) (no + 1) cap) (no + 1) (O.map (.int .i64) ++ [.int .i64 q]))
    (h2 : (wx.alloc o).grownBy w' (Value.slice ao no co).ownBlock) (h3 : (Value.slice ao no co).ownBlock = some g ∨ g = wx.heap.size + 1) :
    PI B Bw own w1 aw nw cw W (some ⟨g, 0, none⟩) (no + 1) cap (O ++ [q]) w' := by
  have hs := h.sz
  have hlt := lt_of_block h.box
  have hsz : (wx.alloc o).heap.size = wx.heap.size + 1 := by simp
  have hnB : some Bw ≠ (Value.slice ao no co).ownBlock := fun e => by
    obtain ⟨x, hx, hxb⟩ := slice_block e.symm
    exact h.outBw x hx hxb
  have hrow : ∀ y, aw = some y → y.block < wx.heap.size := fun y hy => (h.row.lt y.block (by rw [hy]; rfl)).2
  refine ⟨?_, fun k hk hkB hko => ?_, h.bw, ?_, ?_, h.roww, ?_, ?_, ?_⟩
  · exact (h.bel.alloc hs o).grown h2 (by omega) (fun k hk => (h.out.lt k hk).1)
  · have := h.bel.size
    rw [h2.block k (by omega) (fun e => by
      obtain ⟨x, hx, hxb⟩ := slice_block e.symm
      have := h.outw x hx
      omega)]
    rw [Below.heap_alloc _ _ _ (by omega)]
    exact h.kept k hk hkB hko
  · rw [h2.block Bw (by omega) hnB, Below.heap_alloc _ _ _ hlt]
    exact h.box
  · refine (h.row.alloc o).kept h2 ?_
    cases haw : aw with
    | none => exact .inl rfl
    | some y =>
      right
      intro e
      obtain ⟨x, hx, hxb⟩ := slice_block e.symm
      exact h.ne y x haw hx hxb.symm
  · rw [List.map_append]
    exact h1
  · intro x hx
    cases hx
    have := h.bel.size
    rcases h3 with h3 | h3
    · obtain ⟨y, hy, hyb⟩ := slice_block h3
      have := h.outw y hy
      show w1.heap.size ≤ g
      omega
    · show w1.heap.size ≤ g
      omega
  · intro x y hx hy
    cases hy
    rcases h3 with h3 | h3
    · obtain ⟨z, hz, hzb⟩ := slice_block h3
      show x.block ≠ g
      rw [← hzb]
      exact h.ne x z hx hz
    · have := hrow x hx
      show x.block ≠ g
      omega
end

/-! Commute's function literal, walked. -/
theorem infoInt : (Try.prog.info? 3).map (fun i => (i.zero, i.size, i.bytes)) = some (some (.int .i64 0), 1, 8) := by kernel_rfl

/-- What the literal leaves. -/
def PlacePost (B Bw : Nat) (own : Option Nat) (w1 : World) (W O : List Int) (n : Nat) (e : Ending) (w' : World) : Prop :=
  ∃ aw cw ao co, e = .returned (.slice ao n co) ∧ PI B Bw own w1 aw W.length cw W ao n co O w'

theorem owns_isL {w : World} {B : Nat} {a : Option Addr} {n c : Nat} {zs : List Int} (h : w.ownsRow B 3 1 (.slice a n c) n (zs.map (.int .i64))) (hm : n ≤ maxLen) : IsL w a zs ∧ zs.length = n := by
  have hl : zs.length = n := by have := h.1; simpa using this
  refine ⟨⟨by rw [hl]; exact hm, ?_⟩, hl⟩
  rcases h.2 with ⟨_, h0⟩ | ⟨g, cap, cur, hv, _⟩
  · exact .inl (by rw [h0] at hl; exact List.length_eq_zero_iff.1 hl)
  · cases hv
    refine .inr ⟨g, 0, rfl, fun i hi => ?_⟩
    rw [Nat.zero_add, h.cellAt i (by omega)]
    simp [hi]

set_option maxHeartbeats 4000000 in
set_option maxRecDepth 100000 in
theorem place_any (B Bw : Nat) (own : Option Nat) (b off len cap : Nat) (zs : List Int) (aw : Option Addr) (nw cw : Nat) (W : List Int) (w : World)
    (h : PI B Bw own w aw nw cw W none 0 0 [] w) (hc : ∀ i, i < zs.length → w.cell? ⟨b, off + i, none⟩ = some (.int .i64 (zs.getD i 0))) (hbB : b < B) (hl : zs.length = len) (h3 : len ≤ 3) (hW : W.length ≤ 3) (hcap : len ≤ cap) :
    Calls Try.prog 79 #[.slice (some ⟨b, off, none⟩) len cap, .pointer (some ⟨Bw, 0, none⟩)] w (PlacePost B Bw own w (pw W zs len) (po W zs len) len) := by
  obtain ⟨i0, hi, hz0, hz1, hz2⟩ := info_parts infoInt
  have HP := Lib.hid h
  have HC := Lib.hid hc
  have Hl := Lib.hid hl
  have HWl := Lib.hid hW
  have hnw : nw = W.length := by have := h.row.1; simpa using this.symm
  clear h hc hl hW
  subst hnw
  go_enter Try.func79, Try.ntmps79
  go_wp2
  go_loopw [4, 6, 7, 10] (fun v _ _ i wr => ∃ k : Nat, k ≤ len ∧ i = .int .i64 k ∧ ∃ aw cw ao co, v = .slice ao k co ∧ Hid (PI B Bw own w aw (pw W zs k).length cw (pw W zs k) ao k co (po W zs k) wr)) (fun _ _ _ i _ => len - (intOf i).toNat)
  case atStart => exact ⟨0, Nat.zero_le _, rfl, aw, cw, none, 0, rfl, HP⟩
  case round =>
    obtain ⟨k, hk, rfl, aw1, cw1, ao, co, rfl, HI⟩ := hrel
    clear HP
    obtain ⟨w2, rfl⟩ : ∃ w2 : World, w2 = wr := ⟨_, rfl⟩
    by_cases hlt : k < len
    · have hcz : w2.cell? ⟨b, off + k, none⟩ = some (.int .i64 (zs.getD k 0)) := (HI.out.bel.cell hbB).trans (HC.out k (by rw [Hl.out]; exact hlt))
      have hlen := pw_len W zs k
      have hWl := HWl.out
      have hg : Hid (pw W zs (k + 1) = growF (pw W zs k) (zs.getD k 0)) := Lib.hid rfl
      have hp : Hid (po W zs (k + 1) = po W zs k ++ [((posF (pw W zs k) (zs.getD k 0) : Nat) : Int)]) := Lib.hid rfl
      generalize zs.getD k 0 = z at hcz hg hp
      generalize pw W zs k = V at HI hlen hg hp
      generalize po W zs k = O at HI hp
      have hbox := cell_of_one HI.out.box
      have hfree := free_of_one HI.out.box
      have hix := index_any aw1 cw1 V z w2 (owns_isL HI.out.row (by unfold maxLen; omega)).1
      have HIX := Lib.hid hix
      clear hix
      by_cases hneg : idxF V z < 0
      · have e1 : posF V z = V.length := if_pos hneg
        have e2 : growF V z = V ++ [z] := if_pos hneg
        rw [e1] at hp
        rw [e2] at hg
        generalize idxF V z = X at HIX hneg
        clear e1 e2
        go_upto_region 8 with (go_at_call 80; refine HIX.out.mono ?_; rintro e w3 ⟨rfl, rfl⟩)
        go_wp2_with (at_builtin; refine wpList_append_lies _ rfl _ _ 60 rfl B 3 i0 (.int .i64 0) 1 8 Try.underlying60 hi hz0 hz1 hz2 rfl (by decide) _ _ _ rfl (HI.out.row.alloc _) ⟨w2.heap.size, 0, none⟩ 1 1 [.int .i64 z] rfl rfl ?c1 ?c2 (by decide) ?c3 ?c4 ?c5 _ rfl ?_)
        case c1 => exact cell_one_new _ _ _
        case c2 => intro u hu; simp only [List.mem_singleton] at hu; subst hu; rfl
        case c3 => simp only [maxLen]; omega
        case c4 => omega
        case c5 => have := HI.out.sz; simp; omega
        intro g1 cap1 w4 hown hgrow hat hlt4
        have HJ := Lib.hid (HI.out.wire hown hgrow hat)
        have hbox4 := cell_of_one (HI.out.boxGrown hgrow)
        have hfree4 := free_of_one (HI.out.boxGrown hgrow)
        clear hown hgrow hat hlt4 HI hbox hfree
        go_upto_region 9 with fail
        clear hbox4 hfree4
        obtain ⟨w5, hw5⟩ : ∃ w5 : World, w5 = w4.setCell ⟨Bw, 0, none⟩ (.slice (some ⟨g1, 0, none⟩) (V.length + 1) cap1) := ⟨_, rfl⟩
        rw [← hw5] at HJ ⊢
        clear hw5
        go_wp2_with (at_builtin; refine wpList_append_lies _ rfl _ _ 60 rfl B 3 i0 (.int .i64 0) 1 8 Try.underlying60 hi hz0 hz1 hz2 rfl (by decide) _ _ _ rfl (HJ.out.out.alloc _) ⟨w5.heap.size, 0, none⟩ 1 1 [.int .i64 V.length] rfl rfl ?d1 ?d2 (by decide) ?d3 ?d4 ?d5 _ rfl ?_)
        case d1 => exact cell_one_new _ _ _
        case d2 => intro u hu; simp only [List.mem_singleton] at hu; subst hu; rfl
        case d3 => simp only [maxLen]; omega
        case d4 => omega
        case d5 => have := HJ.out.sz; simp; omega
        intro g2 cap2 w6 hown hgrow hat hlt6
        have HK := Lib.hid (HJ.out.push hown hgrow hat)
        clear hown hgrow hat hlt6 HJ
        go_wp2
        go_roundw
        case rel => exact ⟨k + 1, by omega, by go_num, some ⟨g1, 0, none⟩, cap1, some ⟨g2, 0, none⟩, cap2, rfl, by rw [hg.out, hp.out]; simpa using HK⟩
        case measure => simp [intOf]; omega
      · have e1 : posF V z = (idxF V z).toNat := if_neg hneg
        have e2 : growF V z = V := if_neg hneg
        have e3 : idxF V z = ((idxF V z).toNat : Int) := by omega
        rw [e1] at hp
        rw [e2] at hg
        generalize (idxF V z).toNat = X at hp e3
        rw [e3] at HIX hneg
        clear e1 e2 e3
        go_upto_region 9 with (go_at_call 80; refine HIX.out.mono ?_; rintro e w3 ⟨rfl, rfl⟩)
        go_wp2_with (at_builtin; refine wpList_append_lies _ rfl _ _ 60 rfl B 3 i0 (.int .i64 0) 1 8 Try.underlying60 hi hz0 hz1 hz2 rfl (by decide) _ _ _ rfl (HI.out.out.alloc _) ⟨w2.heap.size, 0, none⟩ 1 1 [.int .i64 X] rfl rfl ?d1 ?d2 (by decide) ?d3 ?d4 ?d5 _ rfl ?_)
        case d1 => exact cell_one_new _ _ _
        case d2 => intro u hu; simp only [List.mem_singleton] at hu; subst hu; rfl
        case d3 => simp only [maxLen]; omega
        case d4 => omega
        case d5 => have := HI.out.sz; simp; omega
        intro g2 cap2 w6 hown hgrow hat hlt6
        have HK := Lib.hid (HI.out.push hown hgrow hat)
        clear hown hgrow hat hlt6 HI
        go_wp2
        go_roundw
        case rel => exact ⟨k + 1, by omega, by go_num, aw1, cw1, some ⟨g2, 0, none⟩, cap2, rfl, by rw [hg.out, hp.out]; exact HK⟩
        case measure => simp [intOf]; omega
    · have hkl : k = len := by omega
      subst hkl
      go_wp2
      go_ret
      exact ⟨aw1, cw1, ao, co, rfl, HI.out⟩
end Go.Proofs.Ytmckaoeofikdaaa
