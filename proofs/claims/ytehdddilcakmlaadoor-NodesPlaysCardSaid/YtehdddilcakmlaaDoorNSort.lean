/- Settings in order of their fields: Clone, SortFunc, sorted. -/
import Derived.Test.YtehdddilcakmlaaDoorNApp
import Derived.Test.YtehdddilcakmlaaDoorNCmp2
import Derived.Test.YtehdddilcakmlaaDoorSort
namespace Go.Proofs.YtehdddilcakmlaaDoor
open Go.RowKit Go.Sort Go.Maps Go.Lib
set_option linter.unusedSimpArgs false

def cmpF (a b : AcD) : Int := cmp1 a.f b.f
theorem cmp1_neg {a b : Int} : cmp1 a b < 0 ↔ a < b := by
  unfold cmp1
  repeat' split
  all_goals omega
theorem cmp1_zero {a b : Int} : cmp1 a b = 0 ↔ a = b := by
  unfold cmp1
  repeat' split
  all_goals omega
theorem ltF (a b : AcD) : ltOf cmpF a b = decide (a.f < b.f) := by
  unfold ltOf cmpF
  exact decide_eq_decide.2 cmp1_neg
theorem swoF : SWO (ltOf cmpF) where
  irrefl x := by rw [ltF]; simp
  trans x y z h h' := by
    rw [ltF, decide_eq_true_eq] at *
    omega
  ntrans x y z h h' := by
    rw [ltF, decide_eq_false_iff_not] at *
    omega
theorem Ext.grownV {w a c : World} {v : Value} (h : Ext w a) (g : a.grownBy c v.ownBlock) (hb : ∀ i, v.ownBlock = some i → w.heap.size ≤ i) : Ext w c :=
  h.trans' ⟨g.os, g.tape, g.output, g.size, fun i hi => g.block i (Nat.lt_of_lt_of_le hi h.size) (fun e => by have := hb i e.symm; omega)⟩

set_option maxHeartbeats 2000000 in
theorem cloneA_any {B : Nat → Prop} (r : RowD) (v : Value) (w : World) (h : RowOn B w r v) (hl : r.length ≤ 1000000) :
    Calls Tryd.prog 32 #[v] w fun e w' => ∃ u, e = .returned u ∧ (w'.ownsRow w.heap.size 54 3 u r.length (flatA r) ∧ Ext w w') := by
  obtain ⟨p, len, cap, rfl, hlen, hlc, hcm, -, hr⟩ := h
  have hq1 := Lib.run_eql_slice_nil (P := Tryd.prog)
  have HL := Lib.hid hlen
  have hl2 : len ≤ 1000000 := by omega
  cases p with
  | none =>
    have h0 := hr.resolve_right (by rintro ⟨b, o, h, -⟩; cases h)
    subst h0
    go_enter Tryd.func32, Tryd.ntmps32
    go_wp2_with fail
    go_ret
    exact ⟨_, rfl, World.ownsRow_nil _ _ _ _, Ext.refl _⟩
  | some a =>
    have HN := Lib.hid (fun (W : World) (hW : Ext w W) => show len = 0 ∨ ∃ a', some a = some a' ∧ ∀ j u, (flatA r)[j]? = some u → W.cell? (a'.add j) = some u from by
      rcases hr with rfl | ⟨b, o, he, -, -, hr⟩
      · exact .inl (by simpa using hlen)
      · cases he
        exact .inr ⟨_, rfl, fun j u hu => by rw [Addr.add_mid]; exact World.rangeAt.later hW.later hr j u hu⟩)
    have HO := Lib.hid (owns_empty (e := 54) (k := 3) w)
    have HF := Lib.hid (show (flatA r).length = len * 3 from by rw [flatA_len, hlen])
    have H1 := Lib.hid (show ∀ u ∈ flatA r, u.oneCell' = true from fun u hu => by
      obtain ⟨x, -, hx⟩ := List.mem_flatMap.1 hu
      exact x.one u hx)
    have hsz : w.heap.size ≤ (w.alloc (.cells #[] 54)).heap.size := by simp
    clear hr hlen
    go_enter Tryd.func32, Tryd.ntmps32
    go_wp2_with (at_builtin; refine wpList_append_E elemA rfl _ _ rfl w.heap.size _ 0 [] rfl HO.out (some a) len cap (flatA r) rfl HF.out (HN.out _ (Ext.alloc _ _)) H1.out (by omega) (by omega) hsz ?_; intro v' w' o1 g1 t1)
    go_ret
    refine ⟨_, rfl, ?_, (Ext.alloc w (.cells #[] 54)).grownV g1 (fun i hi => by cases hi; exact Nat.le_refl _)⟩
    rw [← HL.out]
    simpa using o1

/-- in order of the fields: some such row -/
def FSorted (r s : RowD) : Prop := s.Perm r ∧ s.Pairwise fun a b => a.f ≤ b.f

theorem sortA_any (r : RowD) (v : Value) (base : Nat) (w : World) (h : w.ownsRow base 54 3 v r.length (flatA r)) (hl : r.length ≤ 1000000) :
    Calls Tryd.prog 48 #[v, .func (.func 34) #[] #[]] w fun e w' => e = .returned (.tuple #[]) ∧ ∃ s, FSorted r s ∧ w'.ownsRow base 54 3 v r.length (flatA s) ∧ w.grownBy w' v.ownBlock := by
  have eg : ∀ args w, (callFunc 34 args).run Tryd.prog w = .ok (.enter 34 args) w := enters_of Tryd.func34 (by kernel_rfl) rfl
  by_cases hnil : r = []
  · subst hnil
    obtain ⟨p, c, rfl, -⟩ := owns_form h
    refine (AnyF.slices_SortFunc_none { Tryd.sortA with } p c (.func (.func 34) #[] #[]) w).mono ?_
    rintro e w' ⟨he, rfl⟩
    exact ⟨he, [], ⟨List.Perm.refl _, List.Pairwise.nil⟩, h, ⟨rfl, rfl, rfl, Nat.le_refl _, fun _ _ _ => rfl⟩⟩
  rcases h.2 with ⟨rfl, h0⟩ | ⟨g, cap, cur, rfl, hb, hg, hn, hm, hs, ht⟩
  · exact absurd (List.length_eq_zero_iff.1 h0) hnil
  have hlt : g < w.heap.size := (Array.getElem?_eq_some_iff.1 hg).1
  have hr := ownsRow_range h
  have hH : HoldsK AcD.cs 3 w g 0 r.toArray := by
    intro j hj
    refine ⟨?_, by simp [World.frozen?, hg]⟩
    refine hr j _ ?_
    have e1 : (flatK AcD.cs 3 r.toArray).toList[j]? = (flatA r)[j]? := by rw [flatK_toList AcD.len_cs]; rfl
    rw [← e1, Array.getElem?_toList, getElem!_pos _ j hj]
    exact Array.getElem?_eq_getElem hj
  have hcl : CmpLays Tryd.prog 34 #[] AcD.cs 3 cmpF g 0 r.toArray.size w := fun m os dk _ x y =>
    (rows1_any x y (sortWorldK AcD.cs 3 w g 0 m dk os)).mono fun e w' ⟨he, q, os', hw⟩ => ⟨he, q, os', hw⟩
  have hcon := AnyQ.slices_SortFunc Tryd.sortA 3 (fun w => by kernel_rfl) (fun w => by kernel_rfl) AcD.cs AcD.len_cs AcD.one cmpF swoF 34 #[] g 0 cap r.toArray w eg
    hcl hH hlt (by simp; omega)
  refine (show Calls Tryd.prog 48 #[.slice (some ⟨g, 0, none⟩) r.length cap, .func (.func 34) #[] #[]] w _ from hcon).mono ?_
  rintro e w' ⟨he, d', n, os, hp, hso, rfl⟩
  have hsz : d'.size = r.length := by simpa using hp.1
  have hpm : d'.toList.Perm r := by
    have := hp.2.2
    have e1 : (d'.extract 0 r.toArray.size) = d' := by rw [show r.toArray.size = d'.size by simpa using hsz.symm]; simp
    rw [e1] at this
    simpa using this
  refine ⟨he, d'.toList, ⟨hpm, ?_⟩, ?_, grown_put w g n _ os⟩
  · rw [List.pairwise_iff_getElem]
    intro i j hi hj hij
    have hi' : i < d'.size := by simpa using hi
    have hj' : j < d'.size := by simpa using hj
    have := hso i j (Nat.zero_le _) hij (by simp; omega)
    rw [getElem!_pos d' i hi', getElem!_pos d' j hj'] at this
    rw [ltF, decide_eq_false_iff_not] at this
    have h3 : (d'[i]).f ≤ (d'[j]).f := by omega
    simpa using h3
  · have := ownsRow_put (q := n) (F := flatK AcD.cs 3 d') h (by simp [hsz]) os
    have e2 : (flatK AcD.cs 3 d').toList = flatA d'.toList := by
      have := flatK_toList AcD.len_cs d'.toList
      rw [Array.toArray_toList] at this
      exact this
    rw [e2] at this
    exact this

theorem sortedA_any {B : Nat → Prop} (r : RowD) (v : Value) (w : World) (h : RowOn B w r v) (hl : r.length ≤ 1000000) :
    Calls Tryd.prog 33 #[v, .func (.func 34) #[] #[]] w fun e w' => ∃ u, e = .returned u ∧ ∃ s, FSorted r s ∧ w'.ownsRow w.heap.size 54 3 u s.length (flatA s) ∧ Ext w w' := by
  have HC := Lib.hid (cloneA_any r v w h hl)
  obtain ⟨p, cap, rfl, -⟩ := h.form
  go_enter Tryd.func33, Tryd.ntmps33
  go_wp2_with fail
  refine HC.out.mono ?_
  rintro e w1 ⟨u, rfl, hown, hx⟩
  have HS := Lib.hid (sortA_any r u _ w1 hown hl)
  have HB := Lib.hid (fun i (hi : u.ownBlock = some i) => (owns_lt hown i hi).1)
  have HX := Lib.hid hx
  clear hown hx
  go_wp2_with fail
  refine HS.out.mono ?_
  rintro e w2 ⟨rfl, s, hs, hown2, hg⟩
  have HP := Lib.hid (show ∃ s, FSorted r s ∧ w2.ownsRow w.heap.size 54 3 u s.length (flatA s) ∧ Ext w w2 from ⟨s, hs, by rw [hs.1.length_eq]; exact hown2, HX.out.grownV hg HB.out⟩)
  clear hs hown2 hg
  go_wp2_with fail
  go_ret
  exact ⟨_, rfl, HP.out⟩
end Go.Proofs.YtehdddilcakmlaaDoor
