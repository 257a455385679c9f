/- work.of: sequences and unions. -/
import Derived.Test.YtddeelepaiklgaaOf
namespace Go.Proofs.Ytddeelepaiklgaa
open Go.RowKit

theorem OfPre.kid {op f n : Int} {ks : List Tm} {wb : Nat} {c : Int} {b o : Nat} {w0 w : World} (h : OfPre (.mk op f n ks) wb c b o w0 w) (hra : Tm.rightAll ks false = true) (i : Nat) (hi : i < ks.length) {b' o' : Nat} (hall : Tm.AllAt w0 ks b' o') :
    OfPre (ks[i]) wb c b' (o' + i * 4) w0 w :=
  ⟨Tm.rightAll_get hra i hi, by have := h.size; have := Tm.sz_get i hi; simp only [Tm.sz] at *; omega, Tm.AllAt_get hall i hi, h.ext, h.above, h.bd, h.cell, h.fr⟩

theorem HSl.owned {w : World} {base lo : Nat} {l : List Hdr} {v : Value} (h : w.ownsRow base 24 11 v l.length (flatH l)) (hb : lo ≤ base) : HSl w lo l v := (HSl.of_owns h).mono hb

theorem Keep.owns {S : Nat → Prop} {w w' : World} {base : Nat} {e : TypeId} {size : Nat} {v : Value} {n : Nat} {xs : List Value} (hk : Keep S w w') (h : w.ownsRow base e size v n xs) (hs : ∀ i, base ≤ i → ¬ S i) : w'.ownsRow base e size v n xs :=
  ⟨h.1, h.2.imp id fun ⟨g, cap, cur, hv, hg, hc, rest⟩ => ⟨g, cap, cur, hv, hg, (hk.block g (Array.getElem?_eq_some_iff.1 hc).1 (hs g hg)).trans hc, rest⟩⟩

set_option maxHeartbeats 4000000 in
set_option maxRecDepth 100000 in
theorem of_then (f n : Int) (ks : List Tm) (ih : ∀ i (h : i < ks.length), AllOf (ks[i])) : OfOf (.mk 9 f n ks) := by
  intro x wb c b o w0 w hpre
  have IH := Lib.hid ih
  have hwb := World.block_lt_of_cell? w _ hpre.cell
  rcases Tm.right_pol hpre.right with ⟨h, -⟩ | ⟨h, -⟩ | ⟨h, -⟩ | ⟨-, hlen1, hra⟩ <;> try omega
  have HE := Lib.hid (Tm.ofT_then f n ks x c)
  obtain ⟨_, _, _, c0, _, _, p, len, cap, c3, hlen, hlc, hcm, hks⟩ := hpre.at_
  have HL := Lib.hid hlen
  have HC0 := Lib.hid c0
  have HC3 := Lib.hid c3
  have HRA := Lib.hid hra
  have hxa : Ext w (w.alloc (.cells x.cs 24)) := Ext.alloc _ _
  have d0 := (hpre.ext.trans hxa).later _ _ c0
  have hxb : Ext w ((w.alloc (.cells x.cs 24)).alloc (.cells x.cs 24)) := hxa.andAlloc _
  have HXR := Lib.hid (rangeAt_new w x.cs 24)
  have HP := Lib.hid (show OfPre (.mk 9 f n ks) wb c b o w0 ((w.alloc (.cells x.cs 24)).alloc (.cells x.cs 24)) from hpre.later (hxb.keep _) hpre.bd (hxb.later _ _ hpre.cell) (by rw [Below.frozen hxb hwb]; exact hpre.fr))
  have HX := Lib.hid hxb
  have hb := World.block_lt_of_cell? w0 _ c0
  have e3 := (hpre.ext.trans hxb).later _ _ c3
  have HO := Lib.hid (show ((w.alloc (.cells x.cs 24)).alloc (.cells x.cs 24)).ownsRow w.heap.size 24 11 (.slice (some ⟨w.heap.size + 1, 0, none⟩) 1 1) [x].length (flatH [x]) from by
    have := owns_one (w := w.alloc (.cells x.cs 24)) (w' := w) (x := x) (by simp)
    rwa [World.size_alloc] at this)
  clear hpre hxa hxb hlen hra ih c0 c3
  go_enter Try.func36, Try.ntmps36
  go_wp2_with (first | (refine wpList_load_H rfl _ rfl _ _ rfl x HXR.out ?_) | (refine wpList_one_H rfl _ rfl x rfl ?_))
  clear d0 e3
  go_loopw [7, 60] (fun v i wr => ∃ (j : Nat) (l : List Hdr) (c1 : Int), j ≤ len ∧ i = .int .i64 j ∧ Hid (wr.ownsRow w.heap.size 24 11 v l.length (flatH l)) ∧ l.length ≤ 64 ∧ Hid (Tm.thenT (ks.drop j) l c1 = (Tm.mk 9 f n ks).ofT x c) ∧ Hid (OfPre (.mk 9 f n ks) wb c1 b o w0 wr) ∧ Hid (Keep (· = wb) w wr)) (fun _ i _ => len - (intOf i).toNat)
  case atStart => exact ⟨0, [x], c, Nat.zero_le _, rfl, HO.out, by simp, HE.out.symm, HP.out, HX.out.keep _⟩
  case round =>
    obtain ⟨j, l, c1, hj, rfl, hO, hl64, hR, hp, hk⟩ := hrel
    by_cases hlt : j < len
    · rcases hks with hks | ⟨b', o', rfl, hall⟩
      · exfalso; have := HL.out; subst hks; simp at this; omega
      have hjl : j < ks.length := by rw [← HL.out]; exact hlt
      have e3 := hp.out.ext.later _ _ HC3.out
      have HAj := Lib.hid (IH.out j hjl l u7 wb c1 b' (o' + j * 4) w0 wr (hp.out.kid HRA.out j hjl hall) (HSl.owned hO.out (by omega)) hl64)
      have HR' := Lib.hid (show ((allF (fun x c => (ks[j]).ofT x c) l c1).bind fun r => Tm.thenT (ks.drop (j + 1)) r.1 r.2) = (Tm.mk 9 f n ks).ofT x c from by
        have := hR.out
        rw [drop_get hjl] at this
        exact this)
      have hszr : w.heap.size ≤ wr.heap.size := hk.out.size
      generalize hF : allF (fun x c => (ks[j]).ofT x c) l c1 = R at *
      clear hF hall hR hO
      go_wp2_with fail
      refine HAj.out.mono ?_
      rintro e w2 ⟨hk2, hm2⟩
      cases R with
      | none =>
        have hm2' : e = .panicked tooBig := hm2
        subst hm2'
        clear hm2 e3
        go_wp2_with fail
        exact ⟨rfl, hk.out.trans hk2, by rw [← HR'.out]; rfl⟩
      | some r =>
        obtain ⟨l2, c2⟩ := r
        obtain ⟨⟨v2, rfl, hown2⟩, hx64, hbd2, hc2, hf2⟩ := hm2
        have HO2 := Lib.hid (ownsRow_base hown2 hszr)
        have HP2 := Lib.hid (hp.out.later hk2 hbd2 hc2 hf2)
        have HK2 := Lib.hid (hk.out.trans hk2)
        clear hown2 hbd2 hc2 hf2 hk2 e3
        go_wp2_with fail
        go_roundw
        case rel => exact ⟨j + 1, l2, c2, by omega, by go_num, HO2.out, hx64, HR'.out, HP2.out, HK2.out⟩
        case measure => simp [intOf]; omega
    · have HRc := Lib.hid (show some (l, c1) = (Tm.mk 9 f n ks).ofT x c from by
        have := hR.out
        rw [List.drop_of_length_le (by have := HL.out; omega)] at this
        exact this)
      clear hR
      go_wp2_with fail
      go_ret
      refine ⟨hk.out, ?_⟩
      rw [← HRc.out]
      exact ⟨⟨u7, rfl, hO.out⟩, hl64, hp.out.bd, hp.out.cell, hp.out.fr⟩
end Go.Proofs.Ytddeelepaiklgaa
