/- The document's star, from what its all does. -/
import Derived.Test.YtddeelepaiklgaaRef19d
import Derived.Test.YtddeelepaiklgaaOf4
namespace Go.Proofs.Ytddeelepaiklgaa
open Go.RowKit Go.Maps

/-- a round's new ones, without a bound -/
def starR : List Hdr → List Hdr → List Hdr → List Hdr × List Hdr
  | S, nx, [] => (S, nx)
  | S, nx, x :: xs => if x ∈ S then starR S nx xs else starR (S ++ [x]) (nx ++ [x]) xs
theorem starR_len : ∀ (xs S nx : List Hdr), S.length ≤ (starR S nx xs).1.length
  | [], _, _ => Nat.le_refl _
  | x :: xs, S, nx => by
    rw [starR]
    split
    · exact starR_len xs S nx
    · have := starR_len xs (S ++ [x]) (nx ++ [x])
      simp at this; omega
theorem starPut_eq : ∀ (xs S nx : List Hdr), S.length ≤ 64 → starPut S nx xs = if (starR S nx xs).1.length ≤ 64 then some (starR S nx xs) else none
  | [], S, nx, h => by rw [starPut, starR, if_pos h]
  | x :: xs, S, nx, h => by
    rw [starPut, starR]
    by_cases hx : x ∈ S
    · rw [if_pos hx, if_pos hx]; exact starPut_eq xs S nx h
    · rw [if_neg hx, if_neg hx]
      by_cases h64 : S.length < 64
      · rw [if_pos h64]; exact starPut_eq xs _ _ (by simp; omega)
      · rw [if_neg h64, if_neg]
        have := starR_len xs (S ++ [x]) (nx ++ [x])
        simp at this; omega
theorem addH_last {l : List Hdr} {x : Hdr} (h : Asc (l ++ [x])) : addH l x = l ++ [x] := by
  have hl : Asc l := (List.pairwise_append.1 h).1
  refine (asc_addH hl).ext h fun y => ?_
  rw [mem_addH]; simp
theorem nodup_snoc {S : List Hdr} {x : Hdr} (hn : S.Nodup) (hx : x ∉ S) : (S ++ [x]).Nodup :=
  List.nodup_append.2 ⟨hn, by simp, fun a ha b hb e => hx (by simp at hb; rw [← hb, ← e]; exact ha)⟩
theorem gather_nodup {F : Hdr → Int → Option (List Hdr × Int)} : ∀ (l S : List Hdr) (c : Int) (r : List Hdr × Int), S.Nodup → S.length ≤ 64 → gather F l S c = some r → r.1.Nodup
  | [], S, c, r, hn, _, h => by cases h; exact hn
  | x :: xs, S, c, r, hn, hl, h => by
    rw [gather] at h
    cases hf : F x c with
    | none => rw [hf] at h; cases h
    | some a =>
      rw [hf, Option.bind_some] at h
      rcases putAll_ref a.1 S hn hl with ⟨S', hp, hn', hl', -⟩ | ⟨hp, -⟩
      · rw [hp, Option.bind_some] at h
        exact gather_nodup xs S' a.2 r hn' hl' h
      · rw [hp] at h; cases h
theorem allF_asc {F : Hdr → Int → Option (List Hdr × Int)} {l : List Hdr} {c : Int} {r : List Hdr × Int} (h : allF F l c = some r) : Asc r.1 := by
  unfold allF at h
  cases hg : gather F l [] c with
  | none => rw [hg] at h; cases h
  | some a =>
    rw [hg] at h
    cases h
    exact asc_sortH (gather_nodup l [] c a List.nodup_nil (by simp) hg)

def RStarOf (t : Tm) : Prop := ∀ (x : Hdr) (v : Value) (wb : Nat) (c : Int) (w0 w : World), RPre t v wb c w0 w →
  Calls Try.prog 67 #[.pointer (some ⟨wb, 0, none⟩), v, .agg x.cs] w (ROfPost wb (starF (fun x c => t.ofT x c) 64 [x] [x] c) w)

theorem HSl.one {w : World} {x : Hdr} {b : Nat} (h : w.rangeAt b 0 x.cs.toList) : HSl w b [x] (.slice (some ⟨b, 0, none⟩) 1 1) :=
  ⟨_, _, _, rfl, rfl, .inr ⟨b, 0, rfl, Nat.le_refl _, by simpa [flatH] using h⟩⟩

set_option maxHeartbeats 4000000 in
set_option maxRecDepth 100000 in
theorem rStar_of (t : Tm) (hall : RAllOf t) : RStarOf t := by
  intro x v wb c w0 w hpre
  obtain ⟨pt, lt, ct, rfl⟩ := hpre.val.cs'
  have HO := Lib.hid hall
  have hwb : wb < w.heap.size := World.block_lt_of_cell? w _ hpre.cell
  obtain ⟨wA, hA⟩ : ∃ W : World, w.alloc (.cells #[.int .i8 t.op, .int .i8 t.fld, .int .u64 t.n, .slice pt lt ct] 31) = W := ⟨_, rfl⟩
  have xA : Ext w wA := hA ▸ Ext.alloc _ _
  have sA : wA.heap.size = w.heap.size + 1 := by rw [← hA, World.size_alloc]
  have rA : wA.rangeAt w.heap.size 0 [.int .i8 t.op, .int .i8 t.fld, .int .u64 t.n, .slice pt lt ct] := by
    have := rangeAt_new w #[.int .i8 t.op, .int .i8 t.fld, .int .u64 t.n, .slice pt lt ct] 31
    rw [hA] at this
    exact this
  obtain ⟨wB, hB⟩ : ∃ W : World, wA.alloc (.cells x.cs 24) = W := ⟨_, rfl⟩
  have xB : Ext wA wB := hB ▸ Ext.alloc _ _
  have sB : wB.heap.size = w.heap.size + 2 := by rw [← hB, World.size_alloc, sA]
  have rB : wB.rangeAt (w.heap.size + 1) 0 x.cs.toList := by
    have := rangeAt_new wA x.cs 24
    rw [hB, sA] at this
    exact this
  obtain ⟨wC, hC⟩ : ∃ W : World, wB.alloc (.cells x.cs 24) = W := ⟨_, rfl⟩
  have xC : Ext wB wC := hC ▸ Ext.alloc _ _
  have sC : wC.heap.size = w.heap.size + 3 := by rw [← hC, World.size_alloc, sB]
  have rC : wC.rangeAt (w.heap.size + 2) 0 x.cs.toList := by
    have := rangeAt_new wB x.cs 24
    rw [hC, sB] at this
    exact this
  have HRA := Lib.hid (fun W (hW : Keep (· = wb) wC W) => hW.range (World.rangeAt.later (xB.trans xC).later rA) (by show ¬ w.heap.size = wb; omega))
  have HRB := Lib.hid rB
  have HP := Lib.hid (hpre.more ((xA.trans xB).trans xC))
  have HX := Lib.hid ((xA.trans xB).trans xC)
  have HS0 := Lib.hid ((HSl.one rC).mono (show w.heap.size ≤ w.heap.size + 2 by omega))
  have HEQ := Lib.hid (show w.alloc (.cells #[.int .i8 t.op, .int .i8 t.fld, .int .u64 t.n, .slice pt lt ct] 31) = wA ∧ wA.alloc (.cells x.cs 24) = wB ∧ wB.alloc (.cells x.cs 24) = wC from ⟨hA, hB, hC⟩)
  have HSB := Lib.hid sB
  have hlo : w.heap.size ≤ wC.heap.size := by omega
  clear hpre rA xA hA xB rB hB xC rC hC hall sA sB sC
  go_enter Try.func67, Try.ntmps67
  go_upto_region 1 with fail
  rw [HEQ.out.1, HEQ.out.2.1]
  go_upto_region 2 with (first | (refine wpList_load_H rfl _ rfl (w.heap.size + 1) 0 rfl x HRB.out ?_) | (refine wpList_one_H rfl _ rfl x rfl ?_))
  rw [HEQ.out.2.2]
  try rw [HSB.out]
  clear HEQ
  go_wp2_with fail
  go_loopw [8, 9, 10] (fun s f i wr => ∃ (r : Nat) (S fresh : List Hdr) (c1 : Int), r ≤ 64 ∧ i = .int .i64 r ∧ Hid (HSl wr w.heap.size (sortH S) s) ∧ Hid S.Nodup ∧ S.length ≤ 64 ∧ Hid (HSl wr w.heap.size fresh f) ∧ fresh.length ≤ 64 ∧
    Hid (starF (fun x c => t.ofT x c) (64 - r) S fresh c1 = starF (fun x c => t.ofT x c) 64 [x] [x] c) ∧ Hid (RPre t (.agg #[.int .i8 t.op, .int .i8 t.fld, .int .u64 t.n, .slice pt lt ct]) wb c1 w0 wr) ∧ Hid (Keep (· = wb) wC wr)) (fun _ _ i _ => 64 - (intOf i).toNat)
  case atStart => exact ⟨0, [x], [x], c, by omega, rfl, by rw [sortH_one]; exact HS0.out, (show [x].Nodup from by simp), by simp, HS0.out, by simp, rfl, HP.out, Keep.refl _ _⟩
  case round =>
    obtain ⟨wo, rfl⟩ : ∃ wo : World, wo = wr := ⟨_, rfl⟩
    obtain ⟨r, S, fresh, c1, hr64, rfl, hS, hnd, hS64, hf, hf64, hR, hpr, hk⟩ := hrel
    by_cases hlt : r < 64
    · have hR' : ((allF (fun x c => t.ofT x c) fresh c1).bind fun a => (starPut S [] a.1).bind fun p => if p.2 = [] then some (sortH p.1, a.2) else starF (fun x c => t.ofT x c) (63 - r) p.1 p.2 a.2) = starF (fun x c => t.ofT x c) 64 [x] [x] c := by
        have := hR.out
        rw [show 64 - r = (63 - r) + 1 from by omega] at this
        exact this
      obtain ⟨a0, a1, a2, a3⟩ := cells4' (HRA.out _ hk.out)
      have HA := Lib.hid (HO.out fresh u9 _ wb c1 w0 wo hpr.out (hf.out.mono (show wb + 1 ≤ w.heap.size by omega)) hf64)
      have HAsc := Lib.hid (fun (p : List Hdr × Int) (h : allF (fun x c => t.ofT x c) fresh c1 = some p) => allF_asc h)
      generalize allF (fun x c => t.ofT x c) fresh c1 = R at *
      have HR' := Lib.hid hR'
      clear hR hR'
      go_wp2_with fail
      refine HA.out.mono ?_
      rintro e w5 ⟨hk5, v5, rfl, hok5⟩
      have HK5 := Lib.hid (hk.out.trans hk5)
      cases R with
      | none =>
        have hv5 := hok5.none
        subst hv5
        have HF := Lib.hid (show none = starF (fun x c => t.ofT x c) 64 [x] [x] c from HR'.out)
        clear hok5 HR' HA a0 a1 a2 a3
        go_wp2_with fail
        go_ret2
        exact ⟨(HX.out.keep _).trans HK5.out, .slice none 0 0, by rw [← HF.out]; rfl, by rw [← HF.out]; rfl⟩
      | some a =>
        obtain ⟨xs, c2⟩ := a
        obtain ⟨hs5, hx64, hbd2, hc2, hf2⟩ := hok5
        have HP5 := Lib.hid (hpr.out.later hk5 hbd2 hc2 hf2)
        have hxa : Asc xs := HAsc.out _ rfl
        have HSA := Lib.hid (hS.out.keep hk5 (fun b hb => by show ¬ b = wb; omega))
        have HR2 := Lib.hid (show ((starPut S [] xs).bind fun p => if p.2 = [] then some (sortH p.1, c2) else starF (fun x c => t.ofT x c) (63 - r) p.1 p.2 c2) = starF (fun x c => t.ofT x c) 64 [x] [x] c from HR'.out)
        have HPut := Lib.hid (starPut_eq xs S [] hS64)
        obtain ⟨p5, n5, k5, rfl, hn5, hm5⟩ := hs5
        have HN5 := Lib.hid hn5
        have hlt5 : n5 ≤ 64 := by omega
        have hw5 : w.heap.size ≤ wo.heap.size := by have := hk.out.size; omega
        have HM5 := Lib.hid (show xs = [] ∨ ∃ b o, p5 = some ⟨b, o, none⟩ ∧ wb < b ∧ ∀ W, Keep (· = wb) w5 W → W.rangeAt b o (flatH xs) from
          hm5.imp id fun ⟨b, o, hp, hb, hr⟩ => ⟨b, o, hp, by omega, fun W hW => hW.range hr (by show ¬ b = wb; omega)⟩)
        have HND := hnd
        clear hn5 hm5 HR' hbd2 hc2 hf2 HA a0 a1 a2 a3 HAsc
        go_wp2_with fail
        go_loopw [8, 13, 14] (fun s n i wr => ∃ (k : Nat) (S' nx : List Hdr), k ≤ n5 ∧ i = .int .i64 k ∧ Hid (HSl wr w.heap.size (sortH S') s) ∧ Hid S'.Nodup ∧ S'.length ≤ 64 + k ∧ Hid (HSl wr w.heap.size nx n) ∧ nx.length ≤ k ∧
          Hid (starR S' nx (xs.drop k) = starR S [] xs) ∧ Hid (Asc (nx ++ xs.drop k)) ∧ Hid (Ext w5 wr)) (fun _ _ i _ => n5 - (intOf i).toNat)
        case atStart => exact ⟨0, S, [], Nat.zero_le _, rfl, HSA.out, hnd.out, by omega, ⟨none, 0, 0, rfl, rfl, .inl rfl⟩, by simp, rfl, hxa, Ext.refl _⟩
        case round =>
          obtain ⟨wi, rfl⟩ : ∃ wi : World, wi = wr := ⟨_, rfl⟩
          obtain ⟨k, S', nx, hkl, rfl, hS', hnd', hl', hnx, hnl, hSt, hasc, hx⟩ := hrel
          by_cases hlt2 : k < n5
          · have hkx : k < xs.length := by rw [← HN5.out]; exact hlt2
            rcases HM5.out with hm | ⟨b, o, rfl, hb, hr⟩
            · exfalso; rw [hm] at hkx; simp at hkx
            have HRe := Lib.hid (fun W (hW : Ext w5 W) => rangeAt_get Hdr.len_cs (hr W (hW.keep _)) k hkx)
            have hSt2 := hSt.out
            have hasc2 := hasc.out
            rw [drop_get hkx] at hSt2 hasc2
            rw [starR] at hSt2
            generalize xs[k] = y at *
            have HAd := Lib.hid (refAdd_any (sortH S') u8 y w.heap.size wi hS'.out (by rw [length_sortH]; omega) (by have := hx.out.size; have := HK5.out.size; omega))
            have HAS := Lib.hid (addH_sortH (x := y) hnd'.out)
            obtain ⟨q8, n8, k8, rfl, hn8, -⟩ := hS'.out
            have HN8 := Lib.hid (show n8 = S'.length from by rw [hn8, length_sortH])
            have hn8' : n8 ≤ 128 := by rw [HN8.out]; omega
            clear hn8 hr hSt hasc
            by_cases hin : y ∈ S'
            · rw [if_pos hin] at hSt2
              have HSt2 := Lib.hid hSt2
              have HAs2 := Lib.hid (show Asc (nx ++ xs.drop (k + 1)) from by
                refine List.Pairwise.sublist ?_ hasc2
                exact List.Sublist.append_left (List.sublist_cons_self _ _) _)
              have he := HAS.out
              rw [if_pos hin] at he
              rw [he] at HAd
              clear hSt2 hasc2 HAS hin he
              go_wp2_with (first | (refine wpList_load_H rfl _ rfl b (o + k * 11) rfl y (HRe.out _ hx.out) ?_))
              refine HAd.out.mono ?_
              rintro e w6 ⟨⟨s6, rfl, hs6⟩, hx6⟩
              have HS6 := Lib.hid hs6
              obtain ⟨q6, n6, k6, rfl, hn6, -⟩ := hs6
              have hn6' : n6 = n8 := by rw [HN8.out, hn6, length_sortH]
              subst hn6'
              clear hn6
              go_wp2_with fail
              go_roundw
              case rel => exact ⟨k + 1, S', nx, by omega, by go_num, HS6.out, hnd'.out, by omega, hnx.out.ext hx6, by omega, HSt2.out, HAs2.out, hx.out.trans hx6⟩
              case measure => simp [intOf]; omega
            · rw [if_neg hin] at hSt2
              have HSt2 := Lib.hid hSt2
              have HAs2 := Lib.hid (show Asc ((nx ++ [y]) ++ xs.drop (k + 1)) from by rw [List.append_assoc]; exact hasc2)
              have HND2 := Lib.hid (nodup_snoc hnd'.out hin)
              have HLa := Lib.hid (addH_last (List.pairwise_append.1 HAs2.out).1)
              have he := HAS.out
              rw [if_neg hin] at he
              rw [he] at HAd
              clear hSt2 hasc2 HAS hin he
              go_wp2_with (first | (refine wpList_load_H rfl _ rfl b (o + k * 11) rfl y (HRe.out _ hx.out) ?_))
              refine HAd.out.mono ?_
              rintro e w6 ⟨⟨s6, rfl, hs6⟩, hx6⟩
              have HS6 := Lib.hid hs6
              obtain ⟨q6, n6, k6, rfl, hn6, -⟩ := hs6
              have hn6' : n6 = n8 + 1 := by rw [HN8.out, hn6, length_sortH]; simp
              subst hn6'
              have HAd2 := Lib.hid (refAdd_any nx u13 y w.heap.size w6 (hnx.out.ext hx6) (by omega) (by have := hx6.size; have := hx.out.size; have := HK5.out.size; omega))
              rw [HLa.out] at HAd2
              have hx56 : Ext w5 w6 := hx.out.trans hx6
              clear hn6
              go_wp2_with (first | (refine wpList_load_H rfl _ rfl b (o + k * 11) rfl y (HRe.out _ hx56) ?_))
              refine HAd2.out.mono ?_
              rintro e w7 ⟨⟨s7, rfl, hs7⟩, hx7⟩
              have HS7 := Lib.hid hs7
              clear hs7
              go_wp2_with fail
              go_roundw
              case rel => exact ⟨k + 1, S' ++ [y], nx ++ [y], by omega, by go_num, HS6.out.ext hx7, HND2.out, by simp; omega, HS7.out, by simp; omega, HSt2.out, HAs2.out, hx56.trans hx7⟩
              case measure => simp [intOf]; omega
          · have hSt2 := hSt.out
            rw [List.drop_of_length_le (by have := HN5.out; omega), starR] at hSt2
            have hPut := HPut.out
            rw [← hSt2] at hPut
            obtain ⟨q8, n8, k8, rfl, hn8, -⟩ := hS'.out
            obtain ⟨q3, n3, k3, rfl, hn3, -⟩ := hnx.out
            have hn8' : n8 = S'.length := by rw [hn8, length_sortH]
            have hn3' : n3 = nx.length := hn3
            have HPf := Lib.hid (HP5.out.more hx.out)
            have HKf := Lib.hid (HK5.out.trans (hx.out.keep _))
            have hb8 : n8 ≤ 128 := by omega
            have hb3 : n3 ≤ 64 := by omega
            by_cases h64 : S'.length ≤ 64
            · rw [if_pos h64] at hPut
              have hR3 := HR2.out
              rw [hPut] at hR3
              have h8 : n8 ≤ 64 := by omega
              by_cases h0 : nx = []
              · have hR4 : some (sortH S', c2) = starF (fun x c => t.ofT x c) 64 [x] [x] c := by
                  have : (if nx = [] then some (sortH S', c2) else starF (fun x c => t.ofT x c) (63 - r) S' nx c2) = starF (fun x c => t.ofT x c) 64 [x] [x] c := hR3
                  rwa [if_pos h0] at this
                have HF := Lib.hid hR4
                have h30 : n3 = 0 := by rw [hn3', h0]; rfl
                have HL8 := Lib.hid h64
                subst h30
                clear hR3 hR4 hPut hSt2 hn8 hn3 hn3' hn8' h64 h0 hl' hnl
                go_wp2_with fail
                go_ret2
                exact ⟨(HX.out.keep _).trans HKf.out, .slice q8 n8 k8, by rw [← HF.out]; rfl, by rw [← HF.out]; exact ⟨hS'.out, by rw [length_sortH]; exact HL8.out, HPf.out.bd, HPf.out.cell, HPf.out.fr⟩⟩
              · have hR4 : starF (fun x c => t.ofT x c) (63 - r) S' nx c2 = starF (fun x c => t.ofT x c) 64 [x] [x] c := by
                  have : (if nx = [] then some (sortH S', c2) else starF (fun x c => t.ofT x c) (63 - r) S' nx c2) = starF (fun x c => t.ofT x c) 64 [x] [x] c := hR3
                  rwa [if_neg h0] at this
                have HF := Lib.hid hR4
                have hnp : 0 < nx.length := List.length_pos_iff.2 h0
                have h30 : n3 ≠ 0 := by omega
                have HL8 := Lib.hid h64
                have HL3 := Lib.hid (show nx.length ≤ 64 by omega)
                clear hR3 hR4 hPut hSt2 hn8 hn3 hn3' hn8' h64 h0 hl' hnl hnp
                go_wp2_with fail
                go_roundw
                case rel => exact ⟨r + 1, S', nx, c2, by omega, by go_num, hS'.out, hnd'.out, HL8.out, hnx.out, HL3.out, by rw [show 64 - (r + 1) = 63 - r by omega]; exact HF.out, HPf.out, HKf.out⟩
                case measure => simp [intOf]; omega
            · rw [if_neg h64] at hPut
              have hR3 := HR2.out
              rw [hPut] at hR3
              have HF := Lib.hid (show none = starF (fun x c => t.ofT x c) 64 [x] [x] c from hR3)
              have h8 : 64 < n8 := by omega
              clear hR3 hPut hSt2 hn8 hn3 hn3' hn8' h64 hl' hnl
              go_wp2_with fail
              go_ret2
              exact ⟨(HX.out.keep _).trans HKf.out, .slice none 0 0, by rw [← HF.out]; rfl, by rw [← HF.out]; rfl⟩
    · have HF := Lib.hid (show none = starF (fun x c => t.ofT x c) 64 [x] [x] c from by
        have := hR.out
        rw [show 64 - r = 0 by omega] at this
        exact this)
      clear hR
      go_wp2_with fail
      go_ret2
      exact ⟨(HX.out.keep _).trans hk.out, .slice none 0 0, by rw [← HF.out]; rfl, by rw [← HF.out]; rfl⟩
end Go.Proofs.Ytddeelepaiklgaa
