/- work.all, from what work.of does. -/
import Derived.Test.YtddeelepaiklgaaMean
import Derived.Test.YtddeelepaiklgaaHolds4
namespace Go.Proofs.Ytddeelepaiklgaa
open Go.RowKit

/-- a slice of headers whose memory lies from block lo on -/
def HSl (w : World) (lo : Nat) (l : List Hdr) (v : Value) : Prop :=
  ∃ p len cap, v = .slice p len cap ∧ len = l.length ∧ (l = [] ∨ ∃ b o, p = some ⟨b, o, none⟩ ∧ lo ≤ b ∧ w.rangeAt b o (flatH l))
theorem HSl.of_owns {w : World} {base : Nat} {l : List Hdr} {v : Value} (h : w.ownsRow base 24 11 v l.length (flatH l)) : HSl w base l v := by
  rcases h.2 with ⟨rfl, h0⟩ | ⟨g, cap, cur, rfl, hb, _⟩
  · exact ⟨none, 0, 0, rfl, h0.symm, .inl (List.length_eq_zero_iff.1 h0)⟩
  · exact ⟨_, _, _, rfl, rfl, .inr ⟨g, 0, rfl, hb, ownsRow_range h⟩⟩
theorem HSl.keep {S : Nat → Prop} {w w' : World} {lo : Nat} {l : List Hdr} {v : Value} (h : HSl w lo l v) (hk : Keep S w w') (hs : ∀ b, lo ≤ b → ¬ S b) : HSl w' lo l v := by
  obtain ⟨p, len, cap, rfl, hlen, hl⟩ := h
  exact ⟨p, len, cap, rfl, hlen, hl.imp id fun ⟨b, o, hp, hb, hr⟩ => ⟨b, o, hp, hb, hk.range hr (hs b hb)⟩⟩
theorem HSl.ext {w w' : World} {lo : Nat} {l : List Hdr} {v : Value} (h : HSl w lo l v) (hx : Ext w w') : HSl w' lo l v := h.keep (hx.keep fun _ => False) (fun _ _ h => h)
theorem HSl.mono {w : World} {lo lo' : Nat} {l : List Hdr} {v : Value} (h : HSl w lo l v) (hl : lo' ≤ lo) : HSl w lo' l v := by
  obtain ⟨p, len, cap, rfl, hlen, hh⟩ := h
  exact ⟨p, len, cap, rfl, hlen, hh.imp id fun ⟨b, o, hp, hb, hr⟩ => ⟨b, o, hp, by omega, hr⟩⟩

/-- how of and all end: the counter lies in block wb -/
def OfPost (wb : Nat) (r : Option (List Hdr × Int)) (w : World) (e : Ending) (w' : World) : Prop :=
  Keep (· = wb) w w' ∧ match r with
    | some (l, c) => (∃ v, e = .returned v ∧ w'.ownsRow w.heap.size 24 11 v l.length (flatH l)) ∧ l.length ≤ 64 ∧ (0 ≤ c ∧ c ≤ 65536) ∧ w'.cell? ⟨wb, 0, none⟩ = some (.int .i64 c) ∧ w'.frozen? ⟨wb, 0, none⟩ = false
    | none => e = .panicked tooBig
/-- the terms lie below, the counter lies above them -/
structure OfPre (t : Tm) (wb : Nat) (c : Int) (b o : Nat) (w0 w : World) : Prop where
  right : t.right false = true
  size : t.sz ≤ 4096
  at_ : t.At w0 b o
  ext : Ext w0 w
  above : w0.heap.size ≤ wb
  bd : 0 ≤ c ∧ c ≤ 65536
  cell : w.cell? ⟨wb, 0, none⟩ = some (.int .i64 c)
  fr : w.frozen? ⟨wb, 0, none⟩ = false
def OfOf (t : Tm) : Prop := ∀ (x : Hdr) (wb : Nat) (c : Int) (b o : Nat) (w0 w : World), OfPre t wb c b o w0 w →
  Calls Try.prog 36 #[.pointer (some ⟨wb, 0, none⟩), .pointer (some ⟨b, o, none⟩), .agg x.cs] w (OfPost wb (t.ofT x c) w)
def AllOf (t : Tm) : Prop := ∀ (l : List Hdr) (v : Value) (wb : Nat) (c : Int) (b o : Nat) (w0 w : World), OfPre t wb c b o w0 w → HSl w (wb + 1) l v → l.length ≤ 64 →
  Calls Try.prog 53 #[.pointer (some ⟨wb, 0, none⟩), .pointer (some ⟨b, o, none⟩), v] w (OfPost wb (allF (fun x c => t.ofT x c) l c) w)

theorem OfPre.later {t : Tm} {wb : Nat} {c c' : Int} {b o : Nat} {w0 w w' : World} (h : OfPre t wb c b o w0 w) (hk : Keep (· = wb) w w') (hb : 0 ≤ c' ∧ c' ≤ 65536) (hc : w'.cell? ⟨wb, 0, none⟩ = some (.int .i64 c')) (hf : w'.frozen? ⟨wb, 0, none⟩ = false) : OfPre t wb c' b o w0 w' :=
  ⟨h.right, h.size, h.at_, h.ext.andKeep hk (fun i hi => by rw [hi]; exact h.above), h.above, hb, hc, hf⟩

/-- what is done to new blocks alone is kept, too -/
theorem Keep.trans' {S T : Nat → Prop} {a b c : World} (h : Keep S a b) (k : Keep T b c) (ht : ∀ i, T i → a.heap.size ≤ i) : Keep S a c :=
  ⟨k.os.trans h.os, k.tape.trans h.tape, k.output.trans h.output, Nat.le_trans h.size k.size, fun i hi hs => (k.block i (Nat.lt_of_lt_of_le hi h.size) (fun hti => by have := ht i hti; omega)).trans (h.block i hi hs)⟩
theorem ownsRow_base {w : World} {base base' : Nat} {e : TypeId} {size : Nat} {v : Value} {n : Nat} {xs : List Value} (h : w.ownsRow base e size v n xs) (hb : base' ≤ base) : w.ownsRow base' e size v n xs :=
  ⟨h.1, h.2.imp id fun ⟨g, cap, cur, hv, hg, rest⟩ => ⟨g, cap, cur, hv, Nat.le_trans hb hg, rest⟩⟩
theorem drop_get {α : Type} {l : List α} {j : Nat} (h : j < l.length) : l.drop j = l[j] :: l.drop (j + 1) := List.drop_eq_getElem_cons h

set_option maxHeartbeats 4000000 in
set_option maxRecDepth 100000 in
theorem all_of (t : Tm) (hof : OfOf t) : AllOf t := by
  intro l v wb c b o w0 w hpre hv hl64
  obtain ⟨p, len, cap, rfl, hlen, hvl⟩ := hv
  have HL := Lib.hid hlen
  have HP := Lib.hid hpre
  have HO := Lib.hid hof
  have hwb := World.block_lt_of_cell? w _ hpre.cell
  have hmm := @run_makeMap Try.prog
  have HZ := Lib.hid zeroH
  clear hlen hpre hof
  go_enter Try.func53, Try.ntmps53
  go_wp2_with fail
  go_loopw [15] (fun i wr => ∃ (j : Nat) (S : List Hdr) (c1 : Int), j ≤ len ∧ i = .int .i64 j ∧ Hid (SetIs wr w.heap.size S) ∧ S.length ≤ 64 ∧ Hid ((gather (fun x c => t.ofT x c) (l.drop j) S c1).map (fun r => (sortH r.1, r.2)) = allF (fun x c => t.ofT x c) l c) ∧ Hid (OfPre t wb c1 b o w0 wr) ∧ Hid (Keep (· = wb) w wr)) (fun i _ => len - (intOf i).toNat)
  case atStart => exact ⟨0, [], c, Nat.zero_le _, rfl, SetIs.made w, by simp, rfl, HP.out.later ((Ext.alloc _ _).keep _) HP.out.bd ((Ext.alloc w _).later _ _ HP.out.cell) (by rw [Below.frozen (Ext.alloc w (.map #[] 0)) hwb]; exact HP.out.fr), (Ext.alloc _ _).keep _⟩
  case round =>
    obtain ⟨wo, rfl⟩ : ∃ wo : World, wo = wr := ⟨_, rfl⟩
    obtain ⟨j, S, c1, hj, rfl, hS, hS64, hR, hpr, hk⟩ := hrel
    by_cases hlt : j < len
    · have hjl : j < l.length := by rw [← HL.out]; exact hlt
      rcases hvl with hvl | ⟨b', o', rfl, hb', hr⟩
      · exfalso; subst hvl; simp at hjl
      have hre := Lib.hid (hk.out.range (rangeAt_get Hdr.len_cs hr j hjl) (by omega))
      have hxa : Ext wo (wo.alloc (.cells (l[j]).cs 24)) := Ext.alloc _ _
      have hpa : OfPre t wb c1 b o w0 (wo.alloc (.cells (l[j]).cs 24)) := hpr.out.later (hxa.keep _) hpr.out.bd (hxa.later _ _ hpr.out.cell) (by rw [Below.frozen hxa (World.block_lt_of_cell? wo _ hpr.out.cell)]; exact hpr.out.fr)
      have HOx := Lib.hid (HO.out (l[j]) wb c1 b o w0 _ hpa)
      have HKa := Lib.hid (hk.out.trans (hxa.keep _))
      have HSa := Lib.hid (hS.out.ext hxa)
      have hR' := Lib.hid (show ((((t.ofT (l[j]) c1).bind fun r => (putAll S r.1).bind fun S' => gather (fun x c => t.ofT x c) (l.drop (j + 1)) S' r.2)).map fun r => (sortH r.1, r.2)) = allF (fun x c => t.ofT x c) l c from by
        have := hR.out
        rw [drop_get hjl] at this
        exact this)
      have hszr : w.heap.size ≤ wo.heap.size := hk.out.size
      have hsr : w.heap.size < wo.heap.size := hS.out.lt
      have HPa := Lib.hid hpa
      have HX1 := Lib.hid (rangeAt_new wo (l[j]).cs 24)
      generalize hxj : l[j] = x at *
      clear hxj hpa hxa hR hS hpr hk hr
      go_wp2_with (first
        | (refine wpList_store_new rfl 24 _ _ rfl _ x.cs rfl rfl (by rw [x.size_cs]; kernel_rfl) (by rw [x.size_cs]; rfl) (all_oneCell_toArray x.one) ?_)
        | (refine wpList_load_H rfl _ rfl b' (o' + j * 11) rfl x hre.out ?_)
        | (refine wpList_load_H rfl _ rfl _ _ rfl x HX1.out ?_))
      refine HOx.out.mono ?_
      rintro e w2 ⟨hk2, hm2⟩
      cases hv : t.ofT x c1 with
      | none =>
        rw [hv] at hm2 hR'
        subst hm2
        have HF := Lib.hid hR'.out
        clear hv hR'
        go_wp2_with fail
        exact ⟨rfl, HKa.out.trans hk2, by rw [← HF.out]; rfl⟩
      | some r =>
        rw [hv] at hm2 hR'
        obtain ⟨xs, c2⟩ := r
        obtain ⟨⟨v2, rfl, hown2⟩, hx64, hbd2, hc2, hf2⟩ := hm2
        obtain ⟨p2, len2, cap2, rfl, hlen2, hxl⟩ := HSl.of_owns hown2
        have HL2 := Lib.hid hlen2
        have HP2 := Lib.hid (HPa.out.later hk2 hbd2 hc2 hf2)
        have HK2 := Lib.hid (HKa.out.trans hk2)
        have hwbr : wb < wo.heap.size := by omega
        have HS2 := Lib.hid (HSa.out.keep hk2 (by show ¬ w.heap.size = wb; omega))
        have HR2 := Lib.hid (show (((putAll S (xs.drop 0)).bind fun S' => gather (fun x c => t.ofT x c) (l.drop (j + 1)) S' c2).map fun r => (sortH r.1, r.2)) = allF (fun x c => t.ofT x c) l c from hR'.out)
        clear hv hR' hown2 hlen2 hbd2 hc2 hf2 hk2
        go_wp2_with fail
        go_loopw [24] (fun i wr => ∃ (k : Nat) (S' : List Hdr), k ≤ len2 ∧ i = .int .i64 k ∧ Hid (SetIs wr w.heap.size S') ∧ S'.length ≤ 64 ∧ Hid ((((putAll S' (xs.drop k)).bind fun S'' => gather (fun x c => t.ofT x c) (l.drop (j + 1)) S'' c2).map fun r => (sortH r.1, r.2)) = allF (fun x c => t.ofT x c) l c) ∧ Hid (OfPre t wb c2 b o w0 wr) ∧ Hid (Keep (· = wb) w wr) ∧
            Hid (xs = [] ∨ ∃ b o, p2 = some ⟨b, o, none⟩ ∧ w.heap.size < b ∧ wr.rangeAt b o (flatH xs))) (fun i _ => len2 - (intOf i).toNat)
        case atStart => exact ⟨0, S, Nat.zero_le _, rfl, HS2.out, hS64, HR2.out, HP2.out, HK2.out, hxl.imp id fun ⟨b, o, hp, hb, hr⟩ => ⟨b, o, hp, by simp at hb; omega, hr⟩⟩
        case round =>
          obtain ⟨k, S', hkl, rfl, hS2, hS264, hR3, hp3, hk3, hxl3⟩ := hrel
          by_cases hlt2 : k < len2
          · have hkx : k < xs.length := by rw [← HL2.out]; exact hlt2
            rcases hxl3.out with hxl3 | ⟨bx, ox, rfl, hbx, hrx⟩
            · exfalso; subst hxl3; simp at hkx
            have hrk := Lib.hid (rangeAt_get Hdr.len_cs hrx k hkx)
            have hxb : Ext wr (wr.alloc (.cells (xs[k]).cs 24)) := Ext.alloc _ _
            have HSb := Lib.hid (hS2.out.ext hxb)
            have HPb := Lib.hid (show OfPre t wb c2 b o w0 (wr.alloc (.cells (xs[k]).cs 24)) from hp3.out.later (hxb.keep _) hp3.out.bd (hxb.later _ _ hp3.out.cell) (by rw [Below.frozen hxb (World.block_lt_of_cell? wr _ hp3.out.cell)]; exact hp3.out.fr))
            have HKb := Lib.hid (hk3.out.trans (hxb.keep _))
            have HXk := Lib.hid (rangeAt_new wr (xs[k]).cs 24)
            have HRb := Lib.hid (show ((((putM S' (xs[k])).bind fun S' => putAll S' (xs.drop (k + 1))).bind fun S'' => gather (fun x c => t.ofT x c) (l.drop (j + 1)) S'' c2).map fun r => (sortH r.1, r.2)) = allF (fun x c => t.ofT x c) l c from by
              have := hR3.out
              rw [drop_get hkx] at this
              exact this)
            have HXb := Lib.hid (World.rangeAt.later hxb.later hrx)
            have hszr2 : w.heap.size < wr.heap.size := hS2.out.lt
            generalize hyk : xs[k] = y at *
            clear hyk hS2 hR3 hp3 hk3 hxl3 hrx hxb
            go_wp2_with (first
              | (refine wpList_store_new rfl 24 _ _ rfl _ y.cs rfl rfl (by rw [y.size_cs]; kernel_rfl) (by rw [y.size_cs]; rfl) (all_oneCell_toArray y.one) ?_)
              | (refine wpList_load_H rfl _ rfl bx (ox + k * 11) rfl y hrk.out ?_)
              | (refine wpList_load_H rfl _ rfl _ _ rfl y HXk.out ?_))
            by_cases hin : y ∈ S'
            · refine (add_there S' y w.heap.size _ HSb.out hin).mono ?_
              rintro e w3 ⟨rfl, hx3⟩
              have HRc := Lib.hid (show (((putAll S' (xs.drop (k + 1))).bind fun S'' => gather (fun x c => t.ofT x c) (l.drop (j + 1)) S'' c2).map fun r => (sortH r.1, r.2)) = allF (fun x c => t.ofT x c) l c from by
                have := HRb.out
                rw [putM, if_pos hin] at this
                exact this)
              have HP3 := Lib.hid (HPb.out.later (hx3.keep _) HPb.out.bd (hx3.later _ _ HPb.out.cell) (by rw [Below.frozen hx3 (World.block_lt_of_cell? _ _ HPb.out.cell)]; exact HPb.out.fr))
              clear hin
              go_wp2_with fail
              go_roundw
              case rel => exact ⟨k + 1, S', by omega, by go_num, HSb.out.ext hx3, hS264, HRc.out, HP3.out, HKb.out.trans (hx3.keep _), .inr ⟨bx, ox, rfl, hbx, World.rangeAt.later hx3.later HXb.out⟩⟩
              case measure => simp [intOf]; omega
            · refine (add_new S' y w.heap.size _ HSb.out hin).mono ?_
              rintro e w3 ⟨hk3, ⟨hl3, rfl, hs3⟩ | ⟨hl3, rfl⟩⟩
              · have HRc := Lib.hid (show (((putAll (S' ++ [y]) (xs.drop (k + 1))).bind fun S'' => gather (fun x c => t.ofT x c) (l.drop (j + 1)) S'' c2).map fun r => (sortH r.1, r.2)) = allF (fun x c => t.ofT x c) l c from by
                  have := HRb.out
                  rw [putM, if_neg hin, if_pos hl3] at this
                  exact this)
                have hK3 : Keep (· = wb) w w3 := HKb.out.trans' hk3 (fun i hi => by rw [hi]; exact Nat.le_refl _)
                have HP3 := Lib.hid (show OfPre t wb c2 b o w0 w3 from ⟨HPb.out.right, HPb.out.size, HPb.out.at_, HPb.out.ext.andKeep hk3 (fun i hi => by rw [hi]; have := HP.out.ext.size; omega), HPb.out.above, HPb.out.bd, hk3.cell HPb.out.cell (by show ¬ wb = w.heap.size; omega), by rw [World.frozen?_of_block (hk3.block wb (World.block_lt_of_cell? _ _ HPb.out.cell) (by show ¬ wb = w.heap.size; omega))]; exact HPb.out.fr⟩)
                have HX3 := Lib.hid (hk3.range HXb.out (by show ¬ bx = w.heap.size; omega))
                clear hin
                go_wp2_with fail
                go_roundw
                case rel => exact ⟨k + 1, S' ++ [y], by omega, by go_num, hs3, by simp only [List.length_append, List.length_cons, List.length_nil]; omega, HRc.out, HP3.out, hK3, .inr ⟨bx, ox, rfl, hbx, HX3.out⟩⟩
                case measure => simp [intOf]; omega
              · have HRc := Lib.hid (show none = allF (fun x c => t.ofT x c) l c from by
                  have := HRb.out
                  rw [putM, if_neg hin, if_neg (by omega)] at this
                  exact this)
                have hK3 : Keep (· = wb) w w3 := HKb.out.trans' hk3 (fun i hi => by rw [hi]; exact Nat.le_refl _)
                clear hin
                go_wp2_with fail
                exact ⟨rfl, hK3, by rw [← HRc.out]⟩
          · have HRc := Lib.hid (show ((gather (fun x c => t.ofT x c) (l.drop (j + 1)) S' c2).map fun r => (sortH r.1, r.2)) = allF (fun x c => t.ofT x c) l c from by
              have := hR3.out
              rw [List.drop_of_length_le (by have := HL2.out; omega)] at this
              exact this)
            clear hR3 hxl3
            go_wp2_with fail
            go_roundw
            case rel => exact ⟨j + 1, S', c2, by omega, by go_num, hS2.out, hS264, HRc.out, hp3.out, hk3.out⟩
            case measure => simp [intOf]; omega
    · have HRc := Lib.hid (show some (sortH S, c1) = allF (fun x c => t.ofT x c) l c from by
        have := hR.out
        rw [List.drop_of_length_le (by have := HL.out; omega)] at this
        exact this)
      have HLi := Lib.hid (list_any S w.heap.size wo hS.out (by omega))
      clear hR
      go_wp2_with fail
      refine HLi.out.mono ?_
      rintro e w2 ⟨hx2, v2, rfl, hown2⟩
      have HO2 := Lib.hid hown2
      clear hown2
      go_wp2_with fail
      go_ret
      refine ⟨hk.out.trans (hx2.keep _), ?_⟩
      rw [← HRc.out]
      refine ⟨⟨v2, rfl, ?_⟩, by rw [length_sortH]; exact hS64, hpr.out.bd, hx2.later _ _ hpr.out.cell, by rw [Below.frozen hx2 (World.block_lt_of_cell? _ _ hpr.out.cell)]; exact hpr.out.fr⟩
      rw [length_sortH]
      exact ownsRow_base HO2.out hk.out.size
end Go.Proofs.Ytddeelepaiklgaa
