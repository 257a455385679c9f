/- The document's all, from what its of does. -/
import Derived.Test.YtddeelepaiklgaaRefP
import Derived.Test.YtddeelepaiklgaaOf2
namespace Go.Proofs.Ytddeelepaiklgaa
open Go.RowKit Go.Maps

/-- how the document's of and all end: the counter lies in block wb -/
def ROk (wb : Nat) (r : Option (List Hdr × Int)) (w : World) (w' : World) (v : Value) : Prop :=
  match r with
    | some (l, c) => HSl w' w.heap.size l v ∧ l.length ≤ 64 ∧ (0 ≤ c ∧ c ≤ 65536) ∧ w'.cell? ⟨wb, 0, none⟩ = some (.int .i64 c) ∧ w'.frozen? ⟨wb, 0, none⟩ = false
    | none => v = .slice none 0 0
def ROfPost (wb : Nat) (r : Option (List Hdr × Int)) (w : World) (e : Ending) (w' : World) : Prop :=
  Keep (· = wb) w w' ∧ ∃ v, e = .returned (.tuple #[v, .bool r.isSome]) ∧ ROk wb r w w' v
/-- the term lies below, the counter lies above it -/
structure RPre (t : Tm) (v : Value) (wb : Nat) (c : Int) (w0 w : World) : Prop where
  right : t.right false = true
  size : t.sz ≤ 4096
  val : t.Val w0 v
  ext : Ext w0 w
  above : w0.heap.size ≤ wb
  bd : 0 ≤ c ∧ c ≤ 65536
  cell : w.cell? ⟨wb, 0, none⟩ = some (.int .i64 c)
  fr : w.frozen? ⟨wb, 0, none⟩ = false
def ROfOf (t : Tm) : Prop := ∀ (x : Hdr) (v : Value) (wb : Nat) (c : Int) (w0 w : World), RPre t v wb c w0 w →
  Calls Try.prog 44 #[.pointer (some ⟨wb, 0, none⟩), v, .agg x.cs] w (ROfPost wb (t.ofT x c) w)
def RAllOf (t : Tm) : Prop := ∀ (l : List Hdr) (s v : Value) (wb : Nat) (c : Int) (w0 w : World), RPre t v wb c w0 w → HSl w (wb + 1) l s → l.length ≤ 64 →
  Calls Try.prog 68 #[.pointer (some ⟨wb, 0, none⟩), v, s] w (ROfPost wb (allF (fun x c => t.ofT x c) l c) w)

theorem RPre.later {t : Tm} {v : Value} {wb : Nat} {c c' : Int} {w0 w w' : World} (h : RPre t v wb c w0 w) (hk : Keep (· = wb) w w') (hb : 0 ≤ c' ∧ c' ≤ 65536) (hc : w'.cell? ⟨wb, 0, none⟩ = some (.int .i64 c')) (hf : w'.frozen? ⟨wb, 0, none⟩ = false) : RPre t v wb c' w0 w' :=
  ⟨h.right, h.size, h.val, h.ext.andKeep hk (fun i hi => by rw [hi]; exact h.above), h.above, hb, hc, hf⟩
theorem RPre.more {t : Tm} {v : Value} {wb : Nat} {c : Int} {w0 w w' : World} (h : RPre t v wb c w0 w) (hx : Ext w w') : RPre t v wb c w0 w' :=
  h.later (hx.keep _) h.bd (hx.later _ _ h.cell) (by rw [Below.frozen hx (World.block_lt_of_cell? w _ h.cell)]; exact h.fr)
theorem sortH_nil : sortH [] = [] := List.eq_nil_of_length_eq_zero (by rw [length_sortH]; rfl)
theorem sortH_one (x : Hdr) : sortH [x] = [x] := List.perm_singleton.1 (sortH_perm [x])
theorem HSl.nil (w : World) (lo : Nat) : HSl w lo (sortH []) (.slice none 0 0) := by rw [sortH_nil]; exact ⟨none, 0, 0, rfl, rfl, .inl rfl⟩
theorem ROk.none {wb : Nat} {w w' : World} {v : Value} (h : ROk wb none w w' v) : v = .slice none 0 0 := h

set_option maxHeartbeats 4000000 in
set_option maxRecDepth 100000 in
theorem rAll_of (t : Tm) (hof : ROfOf t) : RAllOf t := by
  intro l s v wb c w0 w hpre hs hl64
  obtain ⟨p, len, cap, rfl, hlen, hvl⟩ := hs
  obtain ⟨pt, lt, ct, rfl⟩ := hpre.val.cs'
  have HL := Lib.hid hlen
  have HO := Lib.hid hof
  have hwb : wb < w.heap.size := World.block_lt_of_cell? w _ hpre.cell
  obtain ⟨wA, hA⟩ : ∃ W : World, w.alloc (.cells #[.int .i8 t.op, .int .i8 t.fld, .int .u64 t.n, .slice pt lt ct] 31) = W := ⟨_, rfl⟩
  have xA : Ext w wA := hA ▸ Ext.alloc _ _
  have rA : wA.rangeAt w.heap.size 0 [.int .i8 t.op, .int .i8 t.fld, .int .u64 t.n, .slice pt lt ct] := by
    have := rangeAt_new w #[.int .i8 t.op, .int .i8 t.fld, .int .u64 t.n, .slice pt lt ct] 31
    rw [hA] at this
    exact this
  have HRA := Lib.hid (fun W (hW : Keep (· = wb) wA W) => hW.range rA (by show ¬ w.heap.size = wb; omega))
  have HP := Lib.hid (hpre.more xA)
  have HV := Lib.hid (show l = [] ∨ ∃ b o, p = some ⟨b, o, none⟩ ∧ ∀ W, Keep (· = wb) wA W → W.rangeAt b o (flatH l) from
    hvl.imp id fun ⟨b, o, hp, hb, hr⟩ => ⟨b, o, hp, fun W hW => ((xA.keep _).trans hW).range hr (by omega)⟩)
  have HX := Lib.hid xA
  have HEQ := Lib.hid hA
  have sA : w.heap.size ≤ wA.heap.size := xA.size
  clear hlen hof hvl hpre rA xA hA
  go_enter Try.func68, Try.ntmps68
  go_upto_region 1 with fail
  rw [HEQ.out]
  clear HEQ
  go_wp2_with fail
  go_loopw [8, 9] (fun u i wr => ∃ (j : Nat) (S : List Hdr) (c1 : Int), j ≤ len ∧ i = .int .i64 j ∧ Hid (HSl wr w.heap.size (sortH S) u) ∧ Hid S.Nodup ∧ S.length ≤ 64 ∧ Hid ((gather (fun x c => t.ofT x c) (l.drop j) S c1).map (fun r => (sortH r.1, r.2)) = allF (fun x c => t.ofT x c) l c) ∧ Hid (RPre t (.agg #[.int .i8 t.op, .int .i8 t.fld, .int .u64 t.n, .slice pt lt ct]) wb c1 w0 wr) ∧ Hid (Keep (· = wb) wA wr)) (fun _ i _ => len - (intOf i).toNat)
  case atStart => exact ⟨0, [], c, Nat.zero_le _, rfl, HSl.nil _ _, List.nodup_nil, by simp, rfl, HP.out, Keep.refl _ _⟩
  case round =>
    obtain ⟨wo, rfl⟩ : ∃ wo : World, wo = wr := ⟨_, rfl⟩
    obtain ⟨j, S, c1, hj, rfl, hS, hnd, hS64, hR, hpr, hk⟩ := hrel
    by_cases hlt : j < len
    · have hjl : j < l.length := by rw [← HL.out]; exact hlt
      rcases HV.out with hvl | ⟨b', o', rfl, hr⟩
      · exfalso; subst hvl; simp at hjl
      have HRe := Lib.hid (fun W (hW : Keep (· = wb) wA W) => rangeAt_get Hdr.len_cs (hr W hW) j hjl)
      have HOx := Lib.hid (fun W (hW : RPre t (.agg #[.int .i8 t.op, .int .i8 t.fld, .int .u64 t.n, .slice pt lt ct]) wb c1 w0 W) => HO.out (l[j]) _ wb c1 w0 W hW)
      have HR' := Lib.hid (show ((((t.ofT (l[j]) c1).bind fun r => (putAll S r.1).bind fun S' => gather (fun x c => t.ofT x c) (l.drop (j + 1)) S' r.2)).map fun r => (sortH r.1, r.2)) = allF (fun x c => t.ofT x c) l c from by
        have := hR.out
        rw [drop_get hjl] at this
        exact this)
      have hszr : wA.heap.size ≤ wo.heap.size := hk.out.size
      generalize hxj : l[j] = x at *
      generalize hR0 : t.ofT x c1 = R at *
      have HSS := Lib.hid (fun W (hW : Keep (· = wb) wo W) => (show (fun W => W.cell? ⟨w.heap.size, 0, none⟩ = some (.int .i8 t.op) ∧ W.cell? ⟨w.heap.size, 1, none⟩ = some (.int .i8 t.fld) ∧ W.cell? ⟨w.heap.size, 2, none⟩ = some (.int .u64 t.n) ∧ W.cell? ⟨w.heap.size, 3, none⟩ = some (.slice pt lt ct) ∧ W.rangeAt b' (o' + j * 11) x.cs.toList) W from by
        obtain ⟨d0, d1, d2, d3⟩ := cells4' (HRA.out _ (hk.out.trans hW))
        exact ⟨by simpa using d0, by simpa using d1, by simpa using d2, by simpa using d3, HRe.out _ (hk.out.trans hW)⟩))
      obtain ⟨a0, a1, a2, a3, hrx⟩ := HSS.out _ (Keep.refl _ _)
      have hxd : Keep (· = wb) wo wo.drew := (Ext.drew wo).keep _
      have HPd := Lib.hid (hpr.out.more (Ext.drew wo))
      have hu28 : Try.prog.underlying 24 = some (.array 11 22) := Try.underlying24
      have hi28 : (Try.prog.info? 24).map (·.size) = some x.cs.toList.length := by rw [x.len_cs]; kernel_rfl
      clear hxj hR hr hR0
      go_upto_region 5 with fail
      go_region_held3 (fun W => W.cell? ⟨w.heap.size, 0, none⟩ = some (.int .i8 t.op) ∧ W.cell? ⟨w.heap.size, 1, none⟩ = some (.int .i8 t.fld) ∧ W.cell? ⟨w.heap.size, 2, none⟩ = some (.int .u64 t.n) ∧ W.cell? ⟨w.heap.size, 3, none⟩ = some (.slice pt lt ct) ∧ W.rangeAt b' (o' + j * 11) x.cs.toList) (first | exact HSS.out _ hxd | exact HSS.out _ (hxd.trans hk5)) (first
        | (go_at_call 44; refine (HOx.out _ HPd.out).mono ?_; rintro e w5 ⟨hk5, v5, rfl, hok5⟩))
      have HK5 := Lib.hid (hk.out.trans (hxd.trans hk5))
      cases R with
      | none =>
        have hv5 := hok5.none
        subst hv5
        have HF := Lib.hid (show none = allF (fun x c => t.ofT x c) l c from HR'.out)
        clear HR' hok5 HOx a0 a1 a2 a3 hrx
        go_wp2_with fail
        go_ret2
        exact ⟨(HX.out.keep _).trans HK5.out, .slice none 0 0, by rw [← HF.out]; rfl, by rw [← HF.out]; rfl⟩
      | some r =>
        obtain ⟨xs, c2⟩ := r
        obtain ⟨hs5, hx64, hbd2, hc2, hf2⟩ := hok5
        have HP6 := Lib.hid (hpr.out.later (hxd.trans hk5) hbd2 hc2 hf2)
        have hR2 : (((putAll S xs).bind fun S' => gather (fun x c => t.ofT x c) (l.drop (j + 1)) S' c2).map fun r => (sortH r.1, r.2)) = allF (fun x c => t.ofT x c) l c := HR'.out
        have hsz5 : w.heap.size ≤ w5.heap.size := by have := HK5.out.size; omega
        have hb := refBoth_any (sortH S) xs u8 v5 w.heap.size wo.drew.heap.size w5 (hS.out.keep (hxd.trans hk5) (fun b hb => by show ¬ b = wb; omega)) hs5 (by rw [length_sortH]; omega) (by omega) hsz5
        rcases putAll_ref xs S hnd.out hS64 with ⟨S', hput, hnd', hl', ha⟩ | ⟨hput, hlt2⟩
        · rw [ha, length_sortH, show decide (S'.length ≤ 64) = true from by simpa using hl'] at hb
          rw [hput] at hR2
          have HB := Lib.hid hb
          have HR2 := Lib.hid hR2
          have HN' := Lib.hid hnd'
          clear HR' hb hR2 hput ha hnd' hs5 hx64 hbd2 hc2 hf2 HOx a0 a1 a2 a3 hrx
          go_wp2_with fail
          refine HB.out.mono ?_
          rintro e w6 ⟨⟨s6, rfl, hs6⟩, hx6⟩
          have HS6 := Lib.hid hs6
          clear hs6
          go_wp2_with fail
          go_roundw
          case rel => exact ⟨j + 1, S', c2, by omega, by go_num, HS6.out, HN'.out, hl', HR2.out, HP6.out.more hx6, HK5.out.trans (hx6.keep _)⟩
          case measure => simp [intOf]; omega
        · rw [show decide ((addAll (sortH S) xs).length ≤ 64) = false from by simpa using hlt2] at hb
          rw [hput] at hR2
          have HB := Lib.hid hb
          have HF := Lib.hid (show none = allF (fun x c => t.ofT x c) l c from hR2)
          clear HR' hb hR2 hput hlt2 hs5 hx64 hbd2 hc2 hf2 HOx a0 a1 a2 a3 hrx
          go_wp2_with fail
          refine HB.out.mono ?_
          rintro e w6 ⟨⟨s6, rfl, hs6⟩, hx6⟩
          clear hs6
          go_wp2_with fail
          go_ret2
          exact ⟨(HX.out.keep _).trans (HK5.out.trans (hx6.keep _)), .slice none 0 0, by rw [← HF.out]; rfl, by rw [← HF.out]; rfl⟩
    · have HF := Lib.hid (show some (sortH S, c1) = allF (fun x c => t.ofT x c) l c from by
        have := hR.out
        rw [List.drop_of_length_le (by have := HL.out; omega)] at this
        exact this)
      clear hR
      go_wp2_with fail
      go_ret2
      exact ⟨(HX.out.keep _).trans hk.out, u8, by rw [← HF.out]; rfl, by rw [← HF.out]; exact ⟨hS.out, by rw [length_sortH]; exact hS64, hpr.out.bd, hpr.out.cell, hpr.out.fr⟩⟩
end Go.Proofs.Ytddeelepaiklgaa
