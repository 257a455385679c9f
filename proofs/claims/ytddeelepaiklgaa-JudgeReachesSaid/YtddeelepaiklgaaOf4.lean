/- work.of: stars. -/
import Derived.Test.YtddeelepaiklgaaOf3
namespace Go.Proofs.Ytddeelepaiklgaa
open Go.RowKit

theorem starT_one (t : Tm) (x : Hdr) (c : Int) : Tm.starT [t] x c = starF (fun x c => t.ofT x c) 64 [x] [x] c := by rw [Tm.starT]

/-- behind an append to a row of one's own -/
theorem Keep.appended {S : Nat → Prop} {a b c : World} (h : Keep S a b) {o : Option Nat} (g : b.grownBy c o) (ho : ∀ i, o = some i → a.heap.size ≤ i) : Keep S a c :=
  h.trans' (T := fun i => o = some i) ⟨g.os, g.tape, g.output, g.size, fun i hi hs => g.block i hi (fun e => hs e.symm)⟩ (fun i hi => ho i hi)
theorem Keep.of_grown {b c : World} {o : Option Nat} (g : b.grownBy c o) : Keep (fun i => o = some i) b c := ⟨g.os, g.tape, g.output, g.size, fun i hi hs => g.block i hi (fun e => hs e.symm)⟩
theorem OfPre.other {T : Nat → Prop} {t : Tm} {wb : Nat} {c : Int} {b o : Nat} {w0 w w' : World} (h : OfPre t wb c b o w0 w) (hk : Keep T w w') (hT : ∀ i, T i → wb < i) : OfPre t wb c b o w0 w' :=
  ⟨h.right, h.size, h.at_, h.ext.andKeep hk (fun i hi => by have := hT i hi; have := h.above; omega), h.above, h.bd, hk.cell h.cell (fun e => by have := hT wb e; omega),
    by rw [World.frozen?_of_block (hk.block wb (World.block_lt_of_cell? _ _ h.cell) (fun e => by have := hT _ e; omega))]; exact h.fr⟩

set_option maxHeartbeats 8000000 in
set_option maxRecDepth 100000 in
theorem of_star (f n : Int) (t : Tm) (ih : AllOf t) : OfOf (.mk 10 f n [t]) := by
  intro x wb c b o w0 w hpre
  have IH := Lib.hid ih
  have hwb : wb < w.heap.size := World.block_lt_of_cell? w _ hpre.cell
  rcases Tm.right_pol hpre.right with ⟨h, -⟩ | ⟨h, -⟩ | ⟨-, hlen1, hra⟩ | ⟨h, -⟩ <;> try omega
  have HE := Lib.hid ((Tm.ofT_star f n [t] x c).trans (starT_one t x c))
  obtain ⟨_, _, _, c0, _, _, p, len, cap, c3, hlen, hlc, hcm, hks⟩ := hpre.at_
  rcases hks with hks | ⟨b', o', rfl, hall⟩
  · cases hks
  have hl1 : 0 < len := by rw [hlen]; simp
  have HC3 := Lib.hid c3
  have HRA := Lib.hid hra
  have HALL := Lib.hid hall
  have hmm := @run_makeMap Try.prog
  have HZ := Lib.hid zeroH
  have hxa : Ext w (w.alloc (.cells x.cs 24)) := Ext.alloc _ _
  have d0 := (hpre.ext.trans hxa).later _ _ c0
  have hxb : Ext w ((w.alloc (.cells x.cs 24)).alloc (.map #[] 0)) := hxa.andAlloc _
  have hsm : SetIs ((w.alloc (.cells x.cs 24)).alloc (.map #[] 0)) (w.heap.size + 1) [] := by
    have := SetIs.made (w.alloc (.cells x.cs 24))
    rwa [World.size_alloc] at this
  obtain ⟨ws, hput, hset1, hkeep1⟩ := hsm.put (x := x) (by simp)
  have HXR0 := Lib.hid (World.rangeAt.later (Ext.alloc _ (.map #[] 0)).later (rangeAt_new w x.cs 24))
  have HXRs := Lib.hid (hkeep1.range HXR0.out (by show ¬ w.heap.size = w.heap.size + 1; omega))
  have hks1 : Keep (· = wb) w ws := (hxb.keep (· = wb)).trans' hkeep1 (fun i hi => by rw [hi]; omega)
  have hsb0 : w.heap.size + 1 < ws.heap.size := hset1.lt
  have hxs : Ext ws (ws.alloc (.cells x.cs 24)) := Ext.alloc _ _
  have HP := Lib.hid (show OfPre (.mk 10 f n [t]) wb c b o w0 (ws.alloc (.cells x.cs 24)) from
    ((hpre.later (hxb.keep _) hpre.bd (hxb.later _ _ hpre.cell) (by rw [Below.frozen hxb hwb]; exact hpre.fr)).other hkeep1 (fun i hi => by rw [hi]; omega)).other (hxs.keep fun _ => False) (fun _ h => h.elim))
  have HK := Lib.hid (hks1.trans (hxs.keep _))
  have HS := Lib.hid (hset1.ext hxs)
  have HO := Lib.hid (owns_one (w := ws) (w' := ws) (x := x) (Nat.le_refl _))
  have HPut := Lib.hid hput
  have hb := World.block_lt_of_cell? w0 _ c0
  have hbw : b < w.heap.size := Nat.lt_of_lt_of_le hb hpre.ext.size
  have hab := hpre.above
  have e3 := (hpre.ext.trans hxb).later _ _ c3
  have hx64 : ([] ++ [x]).length ≤ 64 := by simp
  clear hpre hxa hxb hlen hra ih c0 c3 hall hxs hks1 hkeep1 hput hset1 hsm
  go_enter Try.func36, Try.ntmps36
  go_wp2_with (first
    | (refine wpList_load_H rfl _ rfl w.heap.size 0 rfl x HXR0.out ?_)
    | (refine wpList_update_run rfl 102 _ _ _ (.inr rfl) _ _ _ _ rfl rfl rfl HPut.out ?_)
    | (refine wpList_load_H rfl _ rfl w.heap.size 0 rfl x HXRs.out ?_)
    | (refine wpList_one_H rfl _ rfl x rfl ?_))
  clear d0 e3
  go_loopw [10, 82] (fun v i wr => ∃ (r : Nat) (S fresh : List Hdr) (c1 : Int), r ≤ 64 ∧ i = .int .i64 r ∧ Hid (SetIs wr (w.heap.size + 1) S) ∧ S.length ≤ 64 ∧ Hid (wr.ownsRow ws.heap.size 24 11 v fresh.length (flatH fresh)) ∧ fresh.length ≤ 64 ∧
      Hid (starF (fun x c => t.ofT x c) (64 - r) S fresh c1 = (Tm.mk 10 f n [t]).ofT x c) ∧ Hid (OfPre (.mk 10 f n [t]) wb c1 b o w0 wr) ∧ Hid (Keep (· = wb) w wr) ∧ ws.heap.size ≤ wr.heap.size) (fun _ i _ => 64 - (intOf i).toNat)
  case atStart => exact ⟨0, [x], [x], c, by omega, rfl, HS.out, by simp, HO.out, by simp, HE.out.symm, HP.out, HK.out, by simp⟩
  case round =>
    obtain ⟨wo, rfl⟩ : ∃ wo : World, wo = wr := ⟨_, rfl⟩
    obtain ⟨r, S, fresh, c1, hr64, rfl, hS, hS64, hO, hf64, hR, hp, hk, hws⟩ := hrel
    by_cases hlt : r < 64
    · have f3 := hp.out.ext.later _ _ HC3.out
      have hsbo : w.heap.size + 1 < wo.heap.size := hS.out.lt
      have hszr : w.heap.size ≤ wo.heap.size := hk.out.size
      have HAj := Lib.hid (IH.out fresh u10 wb c1 b' o' w0 wo (by have := hp.out.kid HRA.out 0 (by simp) HALL.out; rwa [List.getElem_cons_zero, Nat.zero_mul, Nat.add_zero] at this) (HSl.owned hO.out (by omega)) hf64)
      have HR' := Lib.hid (show ((allF (fun x c => t.ofT x c) fresh c1).bind fun a => (starPut S [] a.1).bind fun p => if p.2 = [] then some (sortH p.1, a.2) else starF (fun x c => t.ofT x c) (63 - r) p.1 p.2 a.2) = (Tm.mk 10 f n [t]).ofT x c from by
        have := hR.out
        rw [show 64 - r = (63 - r) + 1 from by omega] at this
        exact this)
      generalize hF : allF (fun x c => t.ofT x c) fresh c1 = R at *
      clear hF hR hO
      go_wp2_with fail
      refine HAj.out.mono ?_
      rintro e w2 ⟨hk2, hm2⟩
      cases R with
      | none =>
        have hm2' : e = .panicked tooBig := hm2
        subst hm2'
        clear hm2 f3
        go_wp2_with fail
        exact ⟨rfl, hk.out.trans hk2, by rw [← HR'.out]; rfl⟩
      | some a =>
        obtain ⟨xs, c2⟩ := a
        obtain ⟨⟨v2, rfl, hown2⟩, hx264, hbd2, hc2, hf2⟩ := hm2
        obtain ⟨p2, len2, cap2, rfl, hlen2, hxl⟩ := HSl.of_owns hown2
        have HL2 := Lib.hid hlen2
        have HP2 := Lib.hid (hp.out.later hk2 hbd2 hc2 hf2)
        have HK2 := Lib.hid (hk.out.trans hk2)
        have HS2 := Lib.hid (hS.out.keep hk2 (by show ¬ w.heap.size + 1 = wb; omega))
        have hw2 : wo.heap.size ≤ w2.heap.size := hk2.size
        have HWS := Lib.hid (Nat.le_trans hws hw2)
        have HXL := Lib.hid (show xs = [] ∨ ∃ b o, p2 = some ⟨b, o, none⟩ ∧ wo.heap.size ≤ b ∧ b < w2.heap.size ∧ w2.rangeAt b o (flatH xs) from by
          rcases hown2.2 with ⟨he, h0⟩ | ⟨g, cap, cur, he, hg0, hgc, _⟩
          · exact .inl (List.length_eq_zero_iff.1 h0)
          · injection he with e1 e2 e3
            refine hxl.imp id fun ⟨b, o, hb, h1, h2⟩ => ⟨b, o, hb, h1, ?_, h2⟩
            rw [e1] at hb
            have : b = g := by injection hb with h; injection h with h1; exact h1.symm
            rw [this]
            exact (Array.getElem?_eq_some_iff.1 hgc).1)
        have HR2 := Lib.hid (show ((starPut S [] (xs.drop 0)).bind (fun p : List Hdr × List Hdr => if p.2 = [] then some (sortH p.1, c2) else starF (fun x c => t.ofT x c) (63 - r) p.1 p.2 c2)) = (Tm.mk 10 f n [t]).ofT x c from HR'.out)
        clear hown2 hlen2 hbd2 hc2 hf2 hk2 f3 hxl hS hp hk HR'
        go_wp2_with fail
        go_loopw [11, 93] (fun nv i wr => ∃ (k : Nat) (S' nx : List Hdr), k ≤ len2 ∧ i = .int .i64 k ∧ Hid (SetIs wr (w.heap.size + 1) S') ∧ S'.length ≤ 64 ∧ nx.length ≤ S'.length ∧ Hid (wr.ownsRow w2.heap.size 24 11 nv nx.length (flatH nx)) ∧
            Hid (((starPut S' nx (xs.drop k)).bind (fun p : List Hdr × List Hdr => if p.2 = [] then some (sortH p.1, c2) else starF (fun x c => t.ofT x c) (63 - r) p.1 p.2 c2)) = (Tm.mk 10 f n [t]).ofT x c) ∧ Hid (OfPre (.mk 10 f n [t]) wb c2 b o w0 wr) ∧ Hid (Keep (· = wb) w wr) ∧
            Hid (xs = [] ∨ ∃ b o, p2 = some ⟨b, o, none⟩ ∧ wo.heap.size ≤ b ∧ b < w2.heap.size ∧ wr.rangeAt b o (flatH xs)) ∧ w2.heap.size ≤ wr.heap.size) (fun _ i _ => len2 - (intOf i).toNat)
        case atStart => exact ⟨0, S, [], Nat.zero_le _, rfl, HS2.out, hS64, by simp, World.ownsRow_nil _ _ _ _, HR2.out, HP2.out, HK2.out, HXL.out, Nat.le_refl _⟩
        case round =>
          obtain ⟨k, S', nx, hkl, rfl, hS2, hS264, hnx, hO3, hR3, hp3, hk3, hxl3, hwr⟩ := hrel
          have hu11 : ∀ i, u11.ownBlock = some i → w2.heap.size ≤ i := fun i hi => (hO3.out.lt i hi).1
          have HU := Lib.hid hu11
          by_cases hlt2 : k < len2
          · have hkx : k < xs.length := by rw [← HL2.out]; exact hlt2
            rcases hxl3.out with hxl3 | ⟨bx, ox, rfl, hbx, hbx2, hrx⟩
            · exfalso; subst hxl3; simp at hkx
            have hrk := Lib.hid (rangeAt_get Hdr.len_cs hrx k hkx)
            have hxb : Ext wr (wr.alloc (.cells (xs[k]).cs 24)) := Ext.alloc _ _
            have HSb := Lib.hid (hS2.out.ext hxb)
            have HPb := Lib.hid (hp3.out.other (hxb.keep fun _ => False) (fun _ h => h.elim))
            have HKb := Lib.hid (hk3.out.trans (hxb.keep _))
            have HOb := Lib.hid (hO3.out.alloc (.cells (xs[k]).cs 24))
            have HXk := Lib.hid (rangeAt_new wr (xs[k]).cs 24)
            have hszr2 : w.heap.size + 1 < wr.heap.size := hS2.out.lt
            have HRb := Lib.hid (show ((if xs[k] ∈ S' then starPut S' nx (xs.drop (k + 1)) else if S'.length < 64 then starPut (S' ++ [xs[k]]) (nx ++ [xs[k]]) (xs.drop (k + 1)) else none).bind (fun p : List Hdr × List Hdr => if p.2 = [] then some (sortH p.1, c2) else starF (fun x c => t.ofT x c) (63 - r) p.1 p.2 c2)) = (Tm.mk 10 f n [t]).ofT x c from by
              have := hR3.out
              rw [drop_get hkx] at this
              exact this)
            have HXb := Lib.hid (World.rangeAt.later hxb.later hrx)
            generalize hyk : xs[k] = y at *
            clear hyk hS2 hR3 hp3 hk3 hxl3 hrx hxb hO3 hu11
            go_wp2_with (first
              | (refine wpList_store_new rfl 24 _ _ rfl _ y.cs rfl rfl (by rw [y.size_cs]; kernel_rfl) (by rw [y.size_cs]; rfl) (all_oneCell_toArray y.one) ?_)
              | (refine wpList_load_H rfl _ rfl bx (ox + k * 11) rfl y hrk.out ?_)
              | (refine wpList_load_H rfl _ rfl wr.heap.size 0 rfl y HXk.out ?_))
            by_cases hin : y ∈ S'
            · refine (add_there S' y (w.heap.size + 1) _ HSb.out hin).mono ?_
              rintro e w3 ⟨rfl, hx3⟩
              have HRc := Lib.hid (show ((starPut S' nx (xs.drop (k + 1))).bind (fun p : List Hdr × List Hdr => if p.2 = [] then some (sortH p.1, c2) else starF (fun x c => t.ofT x c) (63 - r) p.1 p.2 c2)) = (Tm.mk 10 f n [t]).ofT x c from by
                have := HRb.out
                rw [if_pos hin] at this
                exact this)
              have HO3 := Lib.hid ((hx3.keep fun _ => False).owns HOb.out (fun _ _ h => h))
              have hw3 : w2.heap.size ≤ w3.heap.size := by have := hx3.size; simp at this; omega
              have HP3 := Lib.hid (HPb.out.other (hx3.keep fun _ => False) (fun _ h => h.elim))
              clear hin
              go_wp2_with fail
              go_roundw
              case rel => exact ⟨k + 1, S', nx, by omega, by go_num, HSb.out.ext hx3, hS264, hnx, HO3.out, HRc.out, HP3.out, HKb.out.trans (hx3.keep _), .inr ⟨bx, ox, rfl, hbx, hbx2, World.rangeAt.later hx3.later HXb.out⟩, hw3⟩
              case measure => simp [intOf]; omega
            · refine (add_new S' y (w.heap.size + 1) _ HSb.out hin).mono ?_
              rintro e w3 ⟨hk3, ⟨hl3, rfl, hs3⟩ | ⟨hl3, rfl⟩⟩
              · have HRc := Lib.hid (show ((starPut (S' ++ [y]) (nx ++ [y]) (xs.drop (k + 1))).bind (fun p : List Hdr × List Hdr => if p.2 = [] then some (sortH p.1, c2) else starF (fun x c => t.ofT x c) (63 - r) p.1 p.2 c2)) = (Tm.mk 10 f n [t]).ofT x c from by
                  have := HRb.out
                  rw [if_neg hin, if_pos hl3] at this
                  exact this)
                have hK3 : Keep (· = wb) w w3 := HKb.out.trans' hk3 (fun i hi => by rw [hi]; omega)
                have HP3 := Lib.hid (HPb.out.other hk3 (fun i hi => by rw [hi]; omega))
                have HX3 := Lib.hid (hk3.range HXb.out (by show ¬ bx = w.heap.size + 1; omega))
                have HXk3 := Lib.hid (hk3.range HXk.out (by show ¬ wr.heap.size = w.heap.size + 1; omega))
                have hown3 := hk3.owns HOb.out (fun i hi e => by have : i = w.heap.size + 1 := e; omega)
                have HO3 := Lib.hid (hown3.alloc (.cells y.cs 24))
                have hw3 : w2.heap.size ≤ w3.heap.size := by have := hk3.size; simp at this; omega
                have HS3 := Lib.hid hs3
                clear hin hs3 hk3 hown3
                go_wp2_with (first
                  | (refine wpList_load_H rfl _ rfl wr.heap.size 0 rfl y HXk3.out ?_)
                  | (refine wpList_one_H rfl _ rfl y rfl ?_)
                  | (at_builtin; refine wpList_append_H rfl _ _ rfl w2.heap.size u11 nx rfl HO3.out _ y rfl (rangeAt_new _ _ _) (by omega) (by simp; omega) ?_; intro v' w4 hown4 hg4))
                have hxa : Ext w3 (w3.alloc (.cells y.cs 24)) := Ext.alloc _ _
                have hkg := Keep.of_grown hg4
                have hT : ∀ i, u11.ownBlock = some i → w2.heap.size ≤ i := HU.out
                have hw4 : w2.heap.size ≤ w4.heap.size := by have := hg4.size; simp at this; omega
                refine ⟨⟨k + 1, S' ++ [y], nx ++ [y], by omega, by go_num, (HS3.out.ext hxa).keep hkg (fun e => by have := hT _ e; omega), by simp only [List.length_append, List.length_cons, List.length_nil]; omega, by simp only [List.length_append, List.length_cons, List.length_nil]; omega, hown4, HRc.out,
                  (HP3.out.other (hxa.keep fun _ => False) (fun _ h => h.elim)).other hkg (fun i hi => by have := hT i hi; omega), (hK3.trans (hxa.keep _)).trans' hkg (fun i hi => by have := hT i hi; omega),
                  .inr ⟨bx, ox, rfl, hbx, hbx2, hkg.range (World.rangeAt.later hxa.later HX3.out) (fun e => by have := hT _ e; omega)⟩, hw4⟩, ?_⟩
                simp [intOf]; omega
              · have HRc := Lib.hid (show none = (Tm.mk 10 f n [t]).ofT x c from by
                  have := HRb.out
                  rw [if_neg hin, if_neg (by omega)] at this
                  exact this)
                have hK3 : Keep (· = wb) w w3 := HKb.out.trans' hk3 (fun i hi => by rw [hi]; omega)
                clear hin
                go_wp2_with fail
                exact ⟨rfl, hK3, by rw [← HRc.out]⟩
          · have HRc := Lib.hid (show (if nx = [] then some (sortH S', c2) else starF (fun x c => t.ofT x c) (63 - r) S' nx c2) = (Tm.mk 10 f n [t]).ofT x c from by
              have := hR3.out
              rw [List.drop_of_length_le (by have := HL2.out; omega)] at this
              exact this)
            by_cases hnil : nx = []
            · have HRd := Lib.hid ((if_pos hnil).symm.trans HRc.out)
              have hu := lenOf_owns hO3.out
              have hd0 : nx.length = 0 := by rw [hnil]; rfl
              have HLi := Lib.hid (list_any S' (w.heap.size + 1) wr hS2.out (by omega))
              clear hnil hR3 hxl3
              rcases hO3.out.2 with ⟨rfl, h0⟩ | ⟨g, cap3, cur, rfl, hgb, hgc, _⟩
              · clear hu hd0 h0
                go_wp2_with fail
                refine HLi.out.mono ?_
                rintro e w4 ⟨hx4, v4, rfl, hown4⟩
                have HO4 := Lib.hid hown4
                clear hown4
                go_wp2_with fail
                go_ret
                refine ⟨hk3.out.trans (hx4.keep _), ?_⟩
                rw [← HRd.out]
                refine ⟨⟨v4, rfl, ?_⟩, by rw [length_sortH]; exact hS264, hp3.out.bd, hx4.later _ _ hp3.out.cell, by rw [Below.frozen hx4 (World.block_lt_of_cell? _ _ hp3.out.cell)]; exact hp3.out.fr⟩
                rw [length_sortH]
                exact ownsRow_base HO4.out hk3.out.size
              · rw [hd0]
                clear hu hd0 hgc
                go_wp2_with fail
                refine HLi.out.mono ?_
                rintro e w4 ⟨hx4, v4, rfl, hown4⟩
                have HO4 := Lib.hid hown4
                clear hown4
                go_wp2_with fail
                go_ret
                refine ⟨hk3.out.trans (hx4.keep _), ?_⟩
                rw [← HRd.out]
                refine ⟨⟨v4, rfl, ?_⟩, by rw [length_sortH]; exact hS264, hp3.out.bd, hx4.later _ _ hp3.out.cell, by rw [Below.frozen hx4 (World.block_lt_of_cell? _ _ hp3.out.cell)]; exact hp3.out.fr⟩
                rw [length_sortH]
                exact ownsRow_base HO4.out hk3.out.size
            · have HRd := Lib.hid ((if_neg hnil).symm.trans HRc.out)
              have hpos : 0 < nx.length := List.length_pos_iff.2 hnil
              have HO5 := Lib.hid (ownsRow_base hO3.out (show ws.heap.size ≤ w2.heap.size from by have := HWS.out; omega))
              clear hnil hR3 hxl3
              rcases hO3.out.2 with ⟨rfl, h0⟩ | ⟨g, cap3, cur, rfl, hgb, hgc, _⟩
              · omega
              · have hdn : ((nx.length : Int) == 0) = false := beq_eq_false_iff_ne.2 (by omega)
                clear hgc
                go_wp2_with fail
                go_roundw
                case rel => exact ⟨r + 1, S', nx, c2, by omega, by go_num, hS2.out, hS264, HO5.out, by omega, by rw [Hid, show 64 - (r + 1) = 63 - r from by omega]; exact HRd.out, hp3.out, hk3.out, by have := HWS.out; omega⟩
                case measure => simp [intOf]; omega
    · have HRc := Lib.hid (show none = (Tm.mk 10 f n [t]).ofT x c from by
        have := hR.out
        rw [show 64 - r = 0 from by omega] at this
        exact this)
      have hr : r = 64 := by omega
      clear hR
      go_wp2_with fail
      exact ⟨rfl, hk.out, by rw [← HRc.out]; rfl⟩
end Go.Proofs.Ytddeelepaiklgaa
