/- meaning.holds: the walk. -/
import Derived.Test.YtddeelepaiklgaaHolds2
namespace Go.Proofs.Ytddeelepaiklgaa
open Go.RowKit

/-- what holds says of a term in any world in which it lies -/
def HoldsOf (t : Tm) : Prop := ∀ (x : Hdr) (b o hb ho : Nat) (w : World), t.right true = true → t.At w b o → w.rangeAt hb ho x.cs.toList →
    Calls Try.prog 52 #[.pointer (some ⟨b, o, none⟩), .pointer (some ⟨hb, ho, none⟩)] w fun e w' => e = .returned (.bool (t.holds x)) ∧ Ext w w'

set_option maxHeartbeats 1000000 in
theorem not_any (ks : List Tm) (t : Tm) (x : Hdr) (op f n : Int) (b o hb ho : Nat) (w : World) (ih : HoldsOf t) (hr : t.right true = true) (h : (Tm.mk op f n (t :: ks)).At w b o) (hx : w.rangeAt hb ho x.cs.toList) :
    Calls Try.prog 92 #[.pointer (some ⟨b, o, none⟩), .pointer (some ⟨hb, ho, none⟩)] w fun e w' => e = .returned (.bool (!t.holds x)) ∧ Ext w w' := by
  obtain ⟨_, _, _, _, _, _, p, len, cap, c3, hlen, hlc, hcm, hks⟩ := h
  rcases hks with hks | ⟨b', o', rfl, hall⟩
  · cases hks
  have IH := Lib.hid (ih x b' o' hb ho w hr hall.1 hx)
  have hl1 : 0 < len := by rw [hlen]; simp
  clear hlen
  go_enter Try.func92, Try.ntmps92
  go_wp2_with fail
  refine IH.out.mono ?_
  rintro e w1 ⟨rfl, hx1⟩
  go_wp2_with fail
  go_ret
  exact ⟨rfl, hx1⟩

set_option maxHeartbeats 1000000 in
theorem notkid_any (t : Tm) (x : Hdr) (cs : Array Value) (c hb ho : Nat) (w : World) (ih : HoldsOf t) (hr : t.right true = true) (_h4 : cs.size = 4) (h : t.Val w (.agg cs)) (hx : w.rangeAt hb ho x.cs.toList) (hc : w.cell? ⟨c, 0, none⟩ = some (.pointer (some ⟨hb, ho, none⟩))) :
    Calls Try.prog 95 #[.agg cs, .pointer (some ⟨c, 0, none⟩)] w fun e w' => e = .returned (.bool (!t.holds x)) ∧ Ext w w' := by
  have hxa := Ext.alloc w (.cells cs 31)
  have IH := Lib.hid (ih x w.heap.size 0 hb ho (w.alloc (.cells cs 31)) hr ((h.later hxa.later).at (rangeAt_new w cs _)) (World.rangeAt.later hxa.later hx))
  have HX := Lib.hid hxa
  have hcl := World.block_lt_of_cell? w _ hc
  clear h hx hxa
  go_enter Try.func95, Try.ntmps95
  go_wp2_with fail
  refine IH.out.mono ?_
  rintro e w1 ⟨rfl, hx1⟩
  go_wp2_with fail
  go_ret
  exact ⟨rfl, HX.out.trans hx1⟩

set_option maxHeartbeats 1000000 in
theorem iskid_any (t : Tm) (x : Hdr) (cs : Array Value) (c hb ho : Nat) (w : World) (ih : HoldsOf t) (hr : t.right true = true) (_h4 : cs.size = 4) (h : t.Val w (.agg cs)) (hx : w.rangeAt hb ho x.cs.toList) (hc : w.cell? ⟨c, 0, none⟩ = some (.pointer (some ⟨hb, ho, none⟩))) :
    Calls Try.prog 97 #[.agg cs, .pointer (some ⟨c, 0, none⟩)] w fun e w' => e = .returned (.bool (t.holds x)) ∧ Ext w w' := by
  have hxa := Ext.alloc w (.cells cs 31)
  have IH := Lib.hid (ih x w.heap.size 0 hb ho (w.alloc (.cells cs 31)) hr ((h.later hxa.later).at (rangeAt_new w cs _)) (World.rangeAt.later hxa.later hx))
  have HX := Lib.hid hxa
  have hcl := World.block_lt_of_cell? w _ hc
  clear h hx hxa
  go_enter Try.func97, Try.ntmps97
  go_wp2_with fail
  refine IH.out.mono ?_
  rintro e w1 ⟨rfl, hx1⟩
  go_wp2_with fail
  go_ret
  exact ⟨rfl, HX.out.trans hx1⟩

theorem eg_not : ∀ args w, (callFunc 95 args).run Try.prog w = .ok (.enter 95 args) w := enters_of Try.func95 (by kernel_rfl) rfl
theorem eg_is : ∀ args w, (callFunc 97 args).run Try.prog w = .ok (.enter 97 args) w := enters_of Try.func97 (by kernel_rfl) rfl

set_option maxHeartbeats 1000000 in
theorem and_any (ks : List Tm) (x : Hdr) (op f n : Int) (b o hb ho : Nat) (w : World) (ih : ∀ i (h : i < ks.length), HoldsOf (ks[i])) (hr : Tm.rightAll ks true = true) (h : (Tm.mk op f n ks).At w b o) (hx : w.rangeAt hb ho x.cs.toList) :
    Calls Try.prog 93 #[.pointer (some ⟨b, o, none⟩), .pointer (some ⟨hb, ho, none⟩)] w fun e w' => e = .returned (.bool (Tm.holdsAll ks x)) ∧ Ext w w' := by
  obtain ⟨_, _, _, _, _, _, p, len, cap, c3, hlen, hlc, hcm, hks⟩ := h
  have hxa := Ext.alloc w (.cells #[.pointer (some ⟨hb, ho, none⟩)] 98)
  have hbl := World.block_lt_of_cell? w _ c3
  have hcell : (w.alloc (.cells #[.pointer (some ⟨hb, ho, none⟩)] 98)).cell? ⟨w.heap.size, 0, none⟩ = some (.pointer (some ⟨hb, ho, none⟩)) := by simp [go_sem]
  have HC := Lib.hid (containsFunc_any 95 (.pointer (some ⟨w.heap.size, 0, none⟩)) eg_not ks (fun i => if h : i < ks.length then !(ks[i]).holds x else false) (.slice p len cap) (w.alloc (.cells #[.pointer (some ⟨hb, ho, none⟩)] 98))
    ⟨p, len, cap, rfl, hlen, hlc, hcm, hks.imp id fun ⟨b', o', hp, hall⟩ => ⟨b', o', hp, Tm.AllAt.later hxa.later hall⟩⟩
    (fun i hi cs W h4 hv hW => by
      rw [dif_pos hi]
      exact notkid_any (ks[i]) x cs _ hb ho W (ih i hi) (Tm.rightAll_get hr i hi) h4 hv (World.rangeAt.later (hxa.trans hW).later hx) (hW.later _ _ hcell))
    (!Tm.holdsAll ks x)
    (fun ⟨j, hj, hq⟩ => by
      rw [dif_pos hj] at hq
      rw [Tm.holdsAll_false j hj (by simpa using hq)]; rfl)
    (fun hq => by
      rw [Tm.holdsAll_true (fun m hm => by have := hq m hm; rw [dif_pos hm] at this; simpa using this)]; rfl))
  have HX := Lib.hid hxa
  clear hlen hks hx hr ih hxa hcell
  go_enter Try.func93, Try.ntmps93
  go_wp2_with fail
  refine HC.out.mono ?_
  rintro e w1 ⟨rfl, hx1⟩
  go_wp2_with fail
  go_ret
  exact ⟨by simp, HX.out.trans hx1⟩

set_option maxHeartbeats 1000000 in
theorem or_any (ks : List Tm) (x : Hdr) (op f n : Int) (b o hb ho : Nat) (w : World) (ih : ∀ i (h : i < ks.length), HoldsOf (ks[i])) (hr : Tm.rightAll ks true = true) (h : (Tm.mk op f n ks).At w b o) (hx : w.rangeAt hb ho x.cs.toList) :
    Calls Try.prog 96 #[.pointer (some ⟨b, o, none⟩), .pointer (some ⟨hb, ho, none⟩)] w fun e w' => e = .returned (.bool (Tm.holdsAny ks x)) ∧ Ext w w' := by
  obtain ⟨_, _, _, _, _, _, p, len, cap, c3, hlen, hlc, hcm, hks⟩ := h
  have hxa := Ext.alloc w (.cells #[.pointer (some ⟨hb, ho, none⟩)] 98)
  have hbl := World.block_lt_of_cell? w _ c3
  have hcell : (w.alloc (.cells #[.pointer (some ⟨hb, ho, none⟩)] 98)).cell? ⟨w.heap.size, 0, none⟩ = some (.pointer (some ⟨hb, ho, none⟩)) := by simp [go_sem]
  have HC := Lib.hid (containsFunc_any 97 (.pointer (some ⟨w.heap.size, 0, none⟩)) eg_is ks (fun i => if h : i < ks.length then (ks[i]).holds x else false) (.slice p len cap) (w.alloc (.cells #[.pointer (some ⟨hb, ho, none⟩)] 98))
    ⟨p, len, cap, rfl, hlen, hlc, hcm, hks.imp id fun ⟨b', o', hp, hall⟩ => ⟨b', o', hp, Tm.AllAt.later hxa.later hall⟩⟩
    (fun i hi cs W h4 hv hW => by
      rw [dif_pos hi]
      exact iskid_any (ks[i]) x cs _ hb ho W (ih i hi) (Tm.rightAll_get hr i hi) h4 hv (World.rangeAt.later (hxa.trans hW).later hx) (hW.later _ _ hcell))
    (Tm.holdsAny ks x)
    (fun ⟨j, hj, hq⟩ => by
      rw [dif_pos hj] at hq
      exact Tm.holdsAny_true j hj hq)
    (fun hq => Tm.holdsAny_false (fun m hm => by have := hq m hm; rw [dif_pos hm] at this; exact this)))
  have HX := Lib.hid hxa
  clear hlen hks hx hr ih hxa hcell
  go_enter Try.func96, Try.ntmps96
  go_wp2_with fail
  refine HC.out.mono ?_
  rintro e w1 ⟨rfl, hx1⟩
  go_wp2_with fail
  go_ret
  exact ⟨rfl, HX.out.trans hx1⟩

set_option maxHeartbeats 1000000 in
theorem is_any (f n : Nat) (op : Int) (ks : List Tm) (x : Hdr) (b o hb ho : Nat) (w : World) (hf : f < 11) (h : (Tm.mk op f n ks).At w b o) (hx : w.rangeAt hb ho x.cs.toList) :
    Calls Try.prog 91 #[.pointer (some ⟨b, o, none⟩), .pointer (some ⟨hb, ho, none⟩)] w fun e w' => e = .returned (.bool (x.f f == n)) ∧ Ext w w' := by
  obtain ⟨_, _, _, _, c1, c2, -⟩ := h
  have hc := hx f _ (show x.cs.toList[f]? = some _ from by rw [Array.getElem?_toList]; exact x.cell f hf)
  clear hx
  go_enter Try.func91, Try.ntmps91
  go_wp2_with fail
  go_quiet (fail)
  go_wp2_with fail
  go_ret
  exact ⟨rfl, Ext.drewN _ _⟩

set_option maxHeartbeats 1000000 in
theorem no_any (p q : Value) (w : World) : Calls Try.prog 89 #[p, q] w fun e w' => e = .returned (.bool false) ∧ w = w' := by
  go_enter Try.func89, Try.ntmps89
  go_wp2_with fail
  go_ret
  exact ⟨rfl, rfl⟩
set_option maxHeartbeats 1000000 in
theorem yes_any (p q : Value) (w : World) : Calls Try.prog 90 #[p, q] w fun e w' => e = .returned (.bool true) ∧ w = w' := by
  go_enter Try.func90, Try.ntmps90
  go_wp2_with fail
  go_ret
  exact ⟨rfl, rfl⟩
end Go.Proofs.Ytddeelepaiklgaa
