/- work.of: filters and settings. -/
import Derived.Test.YtddeelepaiklgaaAll
namespace Go.Proofs.Ytddeelepaiklgaa
open Go.RowKit

theorem Tm.ofT_filter (f n : Int) (ks : List Tm) (x : Hdr) (c : Int) : (Tm.mk 6 f n ks).ofT x c = (askM c (Tm.szAll ks + 1 : Nat)).bind fun c' => some (if Tm.holdsHead ks x then [x] else [], c') := by
  rw [Tm.ofT, if_pos rfl]
theorem Tm.ofT_set (f n : Int) (ks : List Tm) (x : Hdr) (c : Int) : (Tm.mk 7 f n ks).ofT x c = (askM c 1).bind fun c' => some ([x.put f.toNat n], c') := by
  rw [Tm.ofT, if_neg (by omega), if_pos rfl]
theorem Tm.ofT_then (f n : Int) (ks : List Tm) (x : Hdr) (c : Int) : (Tm.mk 9 f n ks).ofT x c = Tm.thenT ks [x] c := by
  rw [Tm.ofT, if_neg (by omega), if_neg (by omega), if_pos rfl]
theorem Tm.ofT_star (f n : Int) (ks : List Tm) (x : Hdr) (c : Int) : (Tm.mk 10 f n ks).ofT x c = Tm.starT ks x c := by
  rw [Tm.ofT, if_neg (by omega), if_neg (by omega), if_neg (by omega), if_pos rfl]
theorem Tm.ofT_union (f n : Int) (ks : List Tm) (x : Hdr) (c : Int) : (Tm.mk 8 f n ks).ofT x c = (Tm.unionT ks x [] c).map fun r => (sortH r.1, r.2) := by
  rw [Tm.ofT, if_neg (by omega), if_neg (by omega), if_neg (by omega), if_neg (by omega)]

/-- a list of one header, made anew -/
theorem owns_one {w w' : World} {x : Hdr} (hb : w'.heap.size ≤ w.heap.size) : (w.alloc (.cells x.cs 24)).ownsRow w'.heap.size 24 11 (.slice (some ⟨w.heap.size, 0, none⟩) 1 1) [x].length (flatH [x]) := by
  have := World.ownsRow_lit (base := w'.heap.size) (e := 24) (size := 11) w x.cs 1 hb (by unfold maxLen; omega) (by rw [x.size_cs])
  simpa [flatH] using this

set_option maxHeartbeats 4000000 in
set_option maxRecDepth 100000 in
theorem of_filter (f n : Int) (ks : List Tm) : OfOf (.mk 6 f n ks) := by
  intro x wb c b o w0 w hpre
  have HP := Lib.hid hpre
  have hat := hpre.at_
  have hwb := World.block_lt_of_cell? w _ hpre.cell
  have hbd := hpre.bd
  rcases Tm.right_pol hpre.right with ⟨-, hlen, hra⟩ | ⟨h, -⟩ | ⟨h, -⟩ | ⟨h, -⟩ <;> try omega
  match ks, hlen with
  | [t], _ =>
    have hrt : t.right true = true := by simp only [Tm.rightAll, Bool.and_eq_true] at hra; exact hra.1
    have HE := Lib.hid (Tm.ofT_filter f n [t] x c)
    have hsz : (Tm.mk 6 f n [t]).sz ≤ 4096 := hpre.size
    obtain ⟨_, _, _, c0, _, _, p, len, cap, c3, hlen, hlc, hcm, hks⟩ := hat
    rcases hks with hks | ⟨b', o', rfl, hall⟩
    · cases hks
    have hlen1 : 0 < len := by rw [hlen]; simp
    clear hlen
    have hxa : Ext w (w.alloc (.cells x.cs 24)) := Ext.alloc _ _
    have d0 := (hpre.ext.trans hxa).later _ _ c0
    have d3 := (hpre.ext.trans hxa).later _ _ c3
    have HT := Lib.hid (terms_any (Tm.mk 6 f n [t]) b o (w.alloc (.cells x.cs 24)) hsz (hpre.at_.later (hpre.ext.trans hxa).later))
    have HS := Lib.hid (show (Tm.mk 6 f n [t]).sz = Tm.szAll [t] + 1 from by simp only [Tm.sz])
    have HA := Lib.hid (ask_any c ((Tm.mk 6 f n [t]).sz : Nat) wb (w.alloc (.cells x.cs 24)) hbd ⟨by omega, by omega⟩ (hxa.later _ _ hpre.cell) (by rw [Below.frozen hxa hwb]; exact hpre.fr))
    have hext0 := hpre.ext
    have HALL := Lib.hid hall.1
    have HXR := Lib.hid (rangeAt_new w x.cs 24)
    have HX := Lib.hid hxa
    have hab := hpre.above
    have hb := World.block_lt_of_cell? w0 _ c0
    generalize (Tm.mk 6 f n [t]).sz = y at *
    clear hpre hxa hall hra c0 c3
    go_enter Try.func36, Try.ntmps36
    go_wp2_with fail
    refine HT.out.mono ?_
    rintro e w' ⟨rfl, rfl⟩
    go_wp2_with fail
    refine HA.out.mono ?_
    rintro e w2 ⟨hk2, hc2, hf2, ⟨hle, rfl⟩ | ⟨hgt, rfl⟩⟩
    · have e3 := hk2.cell d3 (by show ¬ b = wb; have : b < w0.heap.size := hb; omega)
      have HX2 := Lib.hid (show w2.rangeAt w.heap.size 0 x.cs.toList from hk2.range HXR.out (by show ¬ w.heap.size = wb; omega))
      have hext2 : Ext w0 w2 := (hext0.trans HX.out).andKeep hk2 (fun i hi => by rw [hi]; exact hab)
      have HH := Lib.hid (holds_any t x b' o' w.heap.size 0 w2 hrt (HALL.out.later hext2.later) HX2.out)
      have HE2 := Lib.hid (show (Tm.mk 6 f n [t]).ofT x c = some (if t.holds x then [x] else [], c + y) from by
        rw [HE.out, ← HS.out, askM, if_pos hle]; rfl)
      have HK2 := Lib.hid ((HX.out.keep (· = wb)).trans hk2)
      clear hext2 hk2
      go_wp2_with fail
      refine HH.out.mono ?_
      rintro e w3 ⟨rfl, hx3⟩
      have HX3 := Lib.hid (World.rangeAt.later hx3.later HX2.out)
      have hc3 := hx3.later _ _ hc2
      have hf3 : w3.frozen? ⟨wb, 0, none⟩ = false := by rw [Below.frozen hx3 (World.block_lt_of_cell? _ _ hc2)]; exact hf2
      have hK3 : Keep (· = wb) w w3 := HK2.out.trans (hx3.keep _)
      by_cases hh : t.holds x = true
      · have HF := Lib.hid (HE2.out.trans (by rw [if_pos hh]))
        rw [hh]
        clear hh
        have HC3 := Lib.hid hc3
        have HF3 := Lib.hid hf3
        clear hc3 hf3 hc2 hf2 e3 d3 d0
        go_wp2_with (first | (refine wpList_load_H rfl _ rfl _ _ rfl x HX3.out ?_) | (refine wpList_one_H rfl _ rfl x rfl ?_))
        go_ret
        refine ⟨hK3.trans ((Ext.alloc _ _).keep _), ?_⟩
        rw [HF.out]
        exact ⟨⟨_, rfl, owns_one hK3.size⟩, by simp, ⟨by omega, hle⟩, (Ext.alloc _ _).later _ _ HC3.out, by rw [Below.frozen (Ext.alloc _ _) (World.block_lt_of_cell? _ _ HC3.out)]; exact HF3.out⟩
      · have HF := Lib.hid (HE2.out.trans (by rw [if_neg hh]))
        rw [show t.holds x = false from by simpa using hh]
        clear hh
        have HC3 := Lib.hid hc3
        have HF3 := Lib.hid hf3
        clear hc3 hf3 hc2 hf2 e3 d3 d0
        go_wp2_with fail
        go_ret
        refine ⟨hK3, ?_⟩
        rw [HF.out]
        exact ⟨⟨_, rfl, World.ownsRow_nil _ _ _ _⟩, by simp, ⟨by omega, hle⟩, HC3.out, HF3.out⟩
    · have HF := Lib.hid (show none = (Tm.mk 6 f n [t]).ofT x c from by
        rw [HE.out, ← HS.out, askM, if_neg (by omega)]; rfl)
      have HK2 := Lib.hid ((HX.out.keep (· = wb)).trans hk2)
      clear hk2
      go_wp2_with fail
      exact ⟨rfl, HK2.out, by rw [← HF.out]⟩

theorem rangeAt_set {w : World} {b f : Nat} {cs : Array Value} (h : w.rangeAt b 0 cs.toList) (hf : f < cs.size) (u : Value) : (w.setCell ⟨b, f, none⟩ u).rangeAt b 0 (cs.setIfInBounds f u).toList := fun j v hv => by
  rw [Nat.zero_add]
  rw [Array.getElem?_toList, Array.getElem?_setIfInBounds] at hv
  by_cases hj : f = j
  · subst hj
    rw [if_pos rfl, if_pos hf] at hv
    cases hv
    have h0 := h f (cs[f]) (by rw [Array.getElem?_toList]; exact Array.getElem?_eq_getElem hf)
    rw [Nat.zero_add] at h0
    exact World.cell?_setCell_same w ⟨b, f, none⟩ _ h0
  · rw [if_neg hj] at hv
    rw [World.cell?_setCell_other _ _ _ _ (fun e => hj (by injection e))]
    have := h j v (by rw [Array.getElem?_toList]; exact hv)
    rwa [Nat.zero_add] at this

set_option maxHeartbeats 4000000 in
set_option maxRecDepth 100000 in
theorem of_set (f n : Int) (ks : List Tm) : OfOf (.mk 7 f n ks) := by
  intro x wb c b o w0 w hpre
  have hwb := World.block_lt_of_cell? w _ hpre.cell
  have hbd := hpre.bd
  rcases Tm.right_pol hpre.right with ⟨h, -⟩ | ⟨-, hf0, hf10⟩ | ⟨h, -⟩ | ⟨h, -⟩ <;> try omega
  obtain ⟨fk, rfl⟩ := Int.eq_ofNat_of_zero_le hf0
  have hfk : fk < 11 := by omega
  have HE := Lib.hid (Tm.ofT_set fk n ks x c)
  obtain ⟨_, _, hn, c0, c1, c2, -⟩ := hpre.at_
  obtain ⟨nk, rfl⟩ := Int.eq_ofNat_of_zero_le hn.1
  have hxa : Ext w (w.alloc (.cells x.cs 24)) := Ext.alloc _ _
  have d0 := (hpre.ext.trans hxa).later _ _ c0
  have d1 := (hpre.ext.trans hxa).later _ _ c1
  have d2 := (hpre.ext.trans hxa).later _ _ c2
  have HA := Lib.hid (ask_any c 1 wb (w.alloc (.cells x.cs 24)) hbd ⟨by omega, by omega⟩ (hxa.later _ _ hpre.cell) (by rw [Below.frozen hxa hwb]; exact hpre.fr))
  have HXR := Lib.hid (rangeAt_new w x.cs 24)
  have HX := Lib.hid hxa
  have hab := hpre.above
  have hszw : w0.heap.size ≤ w.heap.size := hpre.ext.size
  have hb := World.block_lt_of_cell? w0 _ c0
  have hff : (w.alloc (.cells x.cs 24)).frozen? ⟨w.heap.size, fk, none⟩ = false := by simp [go_sem]
  clear hpre hxa c0 c1 c2
  go_enter Try.func36, Try.ntmps36
  go_wp2_with fail
  refine HA.out.mono ?_
  rintro e w2 ⟨hk2, hc2, hf2, ⟨hle, rfl⟩ | ⟨hgt, rfl⟩⟩
  · have e1 := hk2.cell d1 (by show ¬ b = wb; have : b < w0.heap.size := hb; omega)
    have e2 := hk2.cell d2 (by show ¬ b = wb; have : b < w0.heap.size := hb; omega)
    have hx2 : w2.rangeAt w.heap.size 0 x.cs.toList := hk2.range HXR.out (by show ¬ w.heap.size = wb; omega)
    have ec := hx2 fk _ (show x.cs.toList[fk]? = some _ from by rw [Array.getElem?_toList]; exact x.cell fk hfk)
    rw [Nat.zero_add] at ec
    have ef : w2.frozen? ⟨w.heap.size, fk, none⟩ = false := by
      rw [World.frozen?_of_block (hk2.block w.heap.size (by simp) (by show ¬ w.heap.size = wb; omega))]; exact hff
    have HX2 := Lib.hid (show (w2.setCell ⟨w.heap.size, fk, none⟩ (.int .u64 nk)).rangeAt w.heap.size 0 (x.put fk nk).cs.toList from by
      rw [x.cs_put fk nk hn]
      exact rangeAt_set hx2 (by rw [x.size_cs]; exact hfk) _)
    have HE2 := Lib.hid (show (Tm.mk 7 fk nk ks).ofT x c = some ([x.put fk nk], c + 1) from by
      rw [HE.out, askM, if_pos hle, Int.toNat_natCast]; rfl)
    have HK2 := Lib.hid ((HX.out.keep (· = wb)).trans hk2)
    have HC2 := Lib.hid hc2
    have HF2 := Lib.hid hf2
    clear hk2 hx2 hff d0 d1 d2 hc2 hf2
    go_wp2_with fail
    go_upto_region 9 with fail
    go_cut [] (fun wx => wx = (w2.setCell ⟨w.heap.size, fk, none⟩ (.int .u64 nk)).drew)
    case first =>
      go_region
      all_goals (go_wp2_with fail; go_meet; rfl)
    case rest =>
      subst hcut
      have hK3 : Keep (· = wb) w (w2.setCell ⟨w.heap.size, fk, none⟩ (.int .u64 nk)) := HK2.out.trans' (Keep.set (S := (· = w.heap.size)) w2 ⟨w.heap.size, fk, none⟩ (.int .u64 nk) rfl) (fun i hi => by rw [hi]; exact Nat.le_refl _)
      have hC3 : (w2.setCell ⟨w.heap.size, fk, none⟩ (.int .u64 nk)).cell? ⟨wb, 0, none⟩ = some (.int .i64 (c + 1)) := by
        rw [World.cell?_setCell_other _ _ _ _ (fun e => by injection e with e1; omega)]; exact HC2.out
      have hF3 : (w2.setCell ⟨w.heap.size, fk, none⟩ (.int .u64 nk)).frozen? ⟨wb, 0, none⟩ = false := by rw [World.frozen?_setCell]; exact HF2.out
      have HF := Lib.hid HE2.out
      generalize (w2.setCell ⟨w.heap.size, fk, none⟩ (.int .u64 nk)) = w3 at *
      have HK3 := Lib.hid hK3
      have HC3 := Lib.hid hC3
      have HF3 := Lib.hid hF3
      clear e1 e2 ec ef hC3 hF3 hK3
      go_wp2_with (first | (refine wpList_load_H rfl _ rfl _ _ rfl _ HX2.out ?_) | (refine wpList_one_H rfl _ rfl _ rfl ?_))
      go_ret
      refine ⟨(HK3.out.trans ((Ext.drew _).keep _)).trans ((Ext.alloc _ _).keep _), ?_⟩
      rw [HF.out]
      exact ⟨⟨_, rfl, owns_one HK3.out.size⟩, by simp, ⟨by omega, hle⟩, (Ext.alloc _ _).later _ _ HC3.out, by rw [World.frozen?_drew, Below.frozen (Ext.alloc _ _) (World.block_lt_of_cell? _ _ HC3.out)]; exact HF3.out⟩
  · have HF := Lib.hid (show none = (Tm.mk 7 fk nk ks).ofT x c from by
      rw [HE.out, askM, if_neg (by omega)]; rfl)
    have HK2 := Lib.hid ((HX.out.keep (· = wb)).trans hk2)
    clear hk2
    go_wp2_with fail
    exact ⟨rfl, HK2.out, by rw [← HF.out]⟩
end Go.Proofs.Ytddeelepaiklgaa
