/- nodes.key: rows as a key. -/
import Derived.Test.YtehdddilcakmlaaDoorNRows
import Derived.Shelf.Strconv.AppendIntPublic10
import Derived.Shelf.Strconv.AppendUint10
import Derived.Lib.ItoaLen
import Derived.Lib.AppendIntMem
import Derived.Laws.IdiomStrings
namespace Go.Proofs.YtehdddilcakmlaaDoor
open Go.RowKit Go.Sort Go.Maps Go.Lib
set_option linter.unusedSimpArgs false

/-- the table of strconv's reads as it was laid -/
def Tb (w : World) : Prop := Lib.TabIs Tryd.prog w "internal/strconv.uint64pow10" .u64 Lib.pow10Tab
theorem Tb.ext {w w' : World} (h : Tb w) (hx : Ext w w') : Tb w' := Lib.tabBelow_of_tabIs h w' hx
def actK (a : AcD) : List UInt8 := 32 :: (Lib.itoa a.f ++ 61 :: Lib.decDigits a.n.toNat)
def rowK (r : RowD) : List UInt8 := r.flatMap actK ++ [59]
def keyK (l : List RowD) : List UInt8 := l.flatMap rowK
theorem elemB : Elem Tryd.prog 79 5 1 1 :=
  ⟨Tryd.underlying79, by obtain ⟨i, h1, h2, h3, h4⟩ := info_parts (show (Tryd.prog.info? 5).map (fun i => (i.zero, i.size, i.bytes)) = some (some (.int .u8 0), 1, 1) from by kernel_rfl); exact ⟨i, _, h1, h2, h3, h4, rfl⟩, by omega, fun w => by kernel_rfl, by omega⟩
theorem appInt_any (B n : Nat) (i : Int) (h0 : -9223372036854775808 ≤ i) (h1 : i ≤ 9223372036854775807) (sv : Value) (xs : List Value) (w : World) (hown : w.ownsRow B 5 1 sv n xs) (hBw : B ≤ w.heap.size) (hlim : n + 21 ≤ 140737488355328)
    (htab : Lib.TabBelow Tryd.prog B w "internal/strconv.uint64pow10" .u64 Lib.pow10Tab) :
    Calls Tryd.prog 39 #[sv, .int .i64 i, .int .i64 10] w fun e w' => ∃ v', e = .returned v' ∧ w'.ownsRow B 5 1 v' (n + (Lib.itoa i).length) (xs ++ Lib.byteCells (Lib.itoa i)) ∧ Below B w w' ∧ Lib.OthersKept 5 none w w' :=
  Any.strconv_AppendInt_10 Tryd.appendI B n i h0 h1 sv xs w hown hBw hlim htab
theorem appUintI_any (B n u : Nat) (hu : u < 18446744073709551616) (sv : Value) (xs : List Value) (w : World) (hown : w.ownsRow B 5 1 sv n xs) (hBw : B ≤ w.heap.size) (hlim : n + 20 ≤ 140737488355328) (htab : Tb w) :
    Calls Tryd.prog 54 #[sv, .int .u64 u, .int .i64 10] w fun e w' => ∃ v', e = .returned v' ∧ w'.ownsRow B 5 1 v' (n + (Lib.decDigits u).length) (xs ++ Lib.byteCells (Lib.decDigits u)) ∧ Below B w w' ∧ Lib.OthersKept 5 none w w' := by
  by_cases h : u < 100
  · exact Any.internal_strconv_AppendUint_10_small Tryd.appendU B n u h sv xs w hown hBw hlim
  · exact Any.internal_strconv_AppendUint_10_big Tryd.appendU B n u (by omega) hu sv xs w hown hBw hlim htab
def AppPost (B n : Nat) (xs ys : List Value) (w : World) (e : Ending) (w' : World) : Prop := ∃ v', e = .returned v' ∧ w'.ownsRow B 5 1 v' (n + ys.length) (xs ++ ys) ∧ Below B w w' ∧ Lib.OthersKept 5 none w w'
theorem appUint_any (B n u : Nat) (hu : u < 18446744073709551616) (sv : Value) (xs : List Value) (w : World) (hown : w.ownsRow B 5 1 sv n xs) (hBw : B ≤ w.heap.size) (hlim : n + 20 ≤ 140737488355328) (htab : Tb w) :
    Calls Tryd.prog 40 #[sv, .int .u64 u, .int .i64 10] w (AppPost B n xs (Lib.byteCells (Lib.decDigits u)) w) := by
  have HC := Lib.hid (appUintI_any B n u hu sv xs w hown hBw hlim htab)
  obtain ⟨p, c, rfl, -⟩ := owns_form hown
  obtain ⟨ui, hui⟩ : ∃ ui : Int, ui = (u : Int) := ⟨_, rfl⟩
  rw [← hui] at HC ⊢
  clear hui
  go_enter Tryd.func40, Tryd.ntmps40
  go_wp2_with fail
  refine HC.out.mono ?_
  rintro e w1 ⟨v', rfl, h1, h2, h3⟩
  have HP := Lib.hid (show AppPost B n xs (Lib.byteCells (Lib.decDigits u)) w (.returned v') w1 from ⟨v', rfl, by rw [Lib.byteCells_length]; exact h1, h2, h3⟩)
  clear h1 h2 h3
  go_wp2_with fail
  go_ret
  exact HP.out
theorem itoa_small (i : Int) (h0 : -128 ≤ i) (h1 : i ≤ 127) : (Lib.itoa i).length ≤ 21 := Lib.itoa_length_le i (by omega) (by omega)
theorem dec_len (u : Nat) (hu : u < 18446744073709551616) : (Lib.decDigits u).length ≤ 20 := by
  rw [Lib.decDigits_length]
  exact Lib.nDigits_le20 u hu
theorem actK_len (a : AcD) (h : a.ok) : (actK a).length ≤ 43 := by
  unfold actK
  have h1 := itoa_small a.f h.2.1.1 h.2.1.2
  have h2 := dec_len a.n.toNat (by have := h.2.2; omega)
  simp only [List.length_cons, List.length_append]
  omega

set_option maxHeartbeats 8000000 in
set_option maxRecDepth 100000 in
theorem key_any {B : Nat → Prop} (l : List RowD) (v : Value) (w : World) (h : RowsOn B w l v) (hl : l.length ≤ 64) (hrl : ∀ r ∈ l, r.length ≤ 10000) (ht : Tb w) :
    Calls Tryd.prog 22 #[v] w fun e w' => e = .returned (.string ⟨(keyK l).toArray⟩) ∧ Ext w w' := by
  obtain ⟨p, len, cap, rfl, hlen, hlc, hcm, hr⟩ := h
  have HL := Lib.hid hlen
  have hlm : len ≤ 64 := by omega
  have HRL := Lib.hid hrl
  have HTB := Lib.hid (Lib.tabBelow_of_tabIs ht)
  have HR := Lib.hid (fun i (hi : i < l.length) => show ∃ b o u, p = some ⟨b, o, none⟩ ∧ (∀ W, Ext w W → W.cell? ⟨b, o + i, none⟩ = some u) ∧ RowOn B w (l[i]) u from by
    rcases hr with rfl | ⟨b, o, vs, hp, -, -, hvl, hrr, hrow⟩
    · simp at hi
    · have hi' : i < vs.length := by rw [hvl]; exact hi
      exact ⟨b, o, vs[i], hp, fun W hW => hW.later _ _ (hrr i _ (List.getElem?_eq_getElem hi')), hrow i hi hi'⟩)
  clear hlen hr hrl ht
  go_enter Tryd.func22, Tryd.ntmps22
  go_wp2_with fail
  go_loopw [3, 10] (fun bv i wr => ∃ (j n : Nat) (bs : List UInt8), j ≤ len ∧ i = .int .i64 j ∧ Hid (bs = keyK (l.take j)) ∧ Hid (n = bs.length) ∧ n ≤ j * 500000 ∧ Hid (wr.ownsRow w.heap.size 5 1 bv n (Lib.byteCells bs)) ∧ Hid (Ext w wr)) (fun _ i _ => len - (intOf i).toNat)
  case atStart => exact ⟨0, 0, [], Nat.zero_le _, rfl, by show [] = keyK (l.take 0); rw [List.take_zero]; rfl, rfl, by omega, World.ownsRow_nil _ _ _ _, Ext.refl _⟩
  case round =>
    obtain ⟨wo, rfl⟩ : ∃ wo : World, wo = wr := ⟨_, rfl⟩
    obtain ⟨j, n, bs, hj, rfl, hbs, hn, hnb, how, hx⟩ := hrel
    by_cases hlt : j < len
    case neg =>
      have HF := Lib.hid (show bs = keyK l from by
        have := hbs.out
        rwa [List.take_of_length_le (by have := HL.out; omega)] at this)
      rcases owns_range how.out with ⟨h0, h1⟩ | ⟨g, c, rfl, hb, hlt', hrg⟩
      · have hbe : bs = [] := by
          have := hn.out
          rw [h0] at this
          exact List.length_eq_zero_iff.1 this.symm
        subst hbe
        obtain ⟨po, co, rfl, -⟩ := owns_form how.out
        subst h0
        have hcv : (convert 79 9 (.slice po 0 co)).run Tryd.prog wo = .ok (.string ⟨#[]⟩) wo := by
          rw [run_convert_bytes_string wo 79 9 5 po 0 co Tryd.underlying79 Tryd.underlying5 Tryd.underlying9]
          cases po <;> simp [Conv.bytesToString, loadCells, loadCellsFrom, Result.andThen] <;> rfl
        have HXo := Lib.hid hx.out
        clear hbs hn how h1
        go_wp2_with fail
        go_ret
        exact ⟨by rw [← HF.out]; rfl, HXo.out⟩
      · have hn' := hn.out
        have hcv := run_convert_bytes_back (P := Tryd.prog) wo 79 9 5 ⟨g, 0, none⟩ c bs Tryd.underlying79 Tryd.underlying5 Tryd.underlying9 (fun i hi => by
          rw [Addr.add_mid]
          exact hrg i _ (by simp [Lib.byteCells, hi]))
        rw [← hn'] at hcv
        have HXo := Lib.hid hx.out
        clear hbs hn how hrg hn'
        go_wp2_with fail
        go_ret
        exact ⟨by rw [HF.out]; rfl, HXo.out⟩
    have hjl : j < l.length := by rw [← HL.out]; exact hlt
    obtain ⟨b, o, rv, hpe, hcell, hrow⟩ := HR.out j hjl
    have hcell := hcell wo hx.out
    have HIN := Lib.hid (show l[j] ∈ l from List.getElem_mem _)
    have HTk := Lib.hid (List.take_succ_eq_append_getElem hjl)
    have hrl := HRL.out _ HIN.out
    generalize l[j] = r at *
    obtain ⟨pr, lr, cr, rfl, hlr, hlcr, hcmr, hokr, hrr⟩ := hrow
    have HLR := Lib.hid hlr
    have hlr2 : lr ≤ 10000 := by omega
    have HOKR := Lib.hid hokr
    have HRR := Lib.hid (show r = [] ∨ ∃ b o, pr = some ⟨b, o, none⟩ ∧ ∀ W, Ext w W → W.rangeAt b o (flatA r) from
      hrr.imp id fun ⟨b, o, hp, _, _, h⟩ => ⟨b, o, hp, fun W hW => World.rangeAt.later hW.later h⟩)
    subst hpe
    clear hlr hokr hrr
    go_wp2_with fail
    clear hcell
    go_loopw [3, 16] (fun bv i wr => ∃ (k n' : Nat) (bs' : List UInt8), k ≤ lr ∧ i = .int .i64 k ∧ Hid (bs' = keyK (l.take j) ++ (r.take k).flatMap actK) ∧ Hid (n' = bs'.length) ∧ n' ≤ j * 500000 + k * 43 ∧ Hid (wr.ownsRow w.heap.size 5 1 bv n' (Lib.byteCells bs')) ∧ Hid (Ext w wr)) (fun _ i _ => lr - (intOf i).toNat)
    case atStart => exact ⟨0, n, bs, Nat.zero_le _, rfl, by show bs = keyK (l.take j) ++ (r.take 0).flatMap actK; rw [List.take_zero, List.flatMap_nil, List.append_nil]; exact hbs.out, hn.out, Nat.le_trans hnb (Nat.le_add_right _ _), how.out, hx.out⟩
    case round =>
      obtain ⟨wn, rfl⟩ : ∃ wn : World, wn = wr := ⟨_, rfl⟩
      obtain ⟨k, n1, bs1, hk, rfl, hbs1, hn1, hnb1, how1, hxn⟩ := hrel
      have hszn : w.heap.size ≤ wn.heap.size := hxn.out.size
      by_cases hlt2 : k < lr
      case neg =>
        have HO := Lib.hid (owns_ext how1.out (Ext.alloc wn (.cells #[.int .u8 59] 5)))
        have HXa := Lib.hid (hxn.out.andAlloc (.cells #[.int .u8 59] 5))
        have hsza : w.heap.size ≤ (wn.alloc (.cells #[.int .u8 59] 5)).heap.size := HXa.out.size
        have HBS := Lib.hid (show bs1 ++ [59] = keyK (l.take (j + 1)) from by
          have h1 := hbs1.out
          rw [List.take_of_length_le (l := r) (by have := HLR.out; omega)] at h1
          rw [h1, HTk.out]
          simp [keyK, rowK])
        have HN := Lib.hid (show n1 + 1 = (bs1 ++ [59]).length from by rw [List.length_append, hn1.out]; rfl)
        have HCE := Lib.hid (show Lib.byteCells bs1 ++ [Value.int .u8 59] = Lib.byteCells (bs1 ++ [59]) from by simp [Lib.byteCells])
        have HBL := Lib.hid (fun i (hi : u3.ownBlock = some i) => (owns_lt how1.out i hi).1)
        clear hbs1 hn1 how1 hbs hn how
        go_wp2_with (at_builtin; refine wpList_append_E elemB rfl (.tmp 34) (.tmp 35) rfl w.heap.size u3 n1 (Lib.byteCells bs1) rfl HO.out (some ⟨wn.heap.size, 0, none⟩) 1 1 [.int .u8 59] rfl rfl (.inr ⟨_, rfl, fun i u hu => by
          cases i with
          | zero => simp at hu; subst hu; simp [go_sem]
          | succ i => simp at hu⟩) (by intro u hu; simp at hu; subst hu; rfl) (by omega) (by omega) hsza ?_; intro v' w' o1 g1 t1)
        go_roundw
        case rel => exact ⟨j + 1, n1 + 1, bs1 ++ [59], by omega, by go_num, HBS.out, HN.out, by omega, by rw [← HCE.out]; exact o1, HXa.out.grownV g1 HBL.out⟩
        case measure => simp [intOf]; omega
      have hkl : k < r.length := by rw [← HLR.out]; exact hlt2
      rcases HRR.out with h | ⟨br, or', rfl, hrr⟩
      · exfalso; subst h; simp at hkl
      obtain ⟨c0, c1, c2⟩ := acAt (hrr wn hxn.out) k hkl
      have HINA := Lib.hid (show r[k] ∈ r from List.getElem_mem _)
      have HTK := Lib.hid (List.take_succ_eq_append_getElem hkl)
      have hoka := HOKR.out _ HINA.out
      have HAL := Lib.hid (actK_len (r[k]) hoka)
      obtain ⟨un, hun⟩ : ∃ un : Nat, (r[k]).n = un := ⟨(r[k]).n.toNat, by have := hoka.2.2; omega⟩
      have hunb : un < 18446744073709551616 := by have := hoka.2.2; omega
      have hfb : -128 ≤ (r[k]).f ∧ (r[k]).f ≤ 127 := hoka.2.1
      rw [hun] at c2
      have HAK := Lib.hid (show actK (r[k]) = [32] ++ Lib.itoa (r[k]).f ++ [61] ++ Lib.decDigits un from by unfold actK; rw [hun, Int.toNat_natCast]; simp)
      clear hoka hun
      generalize r[k] = a at *
      generalize ha : a.d = ad at *
      generalize hf : a.f = af at *
      clear ha hf
      have HFL := Lib.hid (itoa_small af hfb.1 hfb.2)
      have HDL := Lib.hid (dec_len un hunb)
      have HAKL := Lib.hid (show (actK a).length = 1 + (Lib.itoa af).length + 1 + (Lib.decDigits un).length from by rw [HAK.out]; simp only [List.length_append, List.length_cons, List.length_nil])
      obtain ⟨wS, hS⟩ : ∃ W : World, wn.alloc (.cells #[.int .i8 ad, .int .i8 af, .int .u64 un] 54) = W := ⟨_, rfl⟩
      have xS : Ext wn wS := hS ▸ Ext.alloc _ _
      have e1 : wS.cell? ⟨wn.heap.size, 1, none⟩ = some (.int .i8 af) := by rw [← hS]; simp [go_sem]
      have e2 : wS.cell? ⟨wn.heap.size, 2, none⟩ = some (.int .u64 un) := by rw [← hS]; simp [go_sem]
      have eh : wS.heap[wn.heap.size]? = some (.cells #[.int .i8 ad, .int .i8 af, .int .u64 un] 54 (0, 0)) := by rw [← hS]; exact heap_alloc_new wn _
      have HEQ := Lib.hid hS
      have HXS := Lib.hid (hxn.out.trans xS)
      have HOW := Lib.hid (owns_ext how1.out xS)
      have HLT := Lib.hid (fun i (hi : u3.ownBlock = some i) => owns_lt how1.out i hi)
      have HSS := Lib.hid (fun (W : World) (hW : W.heap[wn.heap.size]? = some (.cells #[.int .i8 ad, .int .i8 af, .int .u64 un] 54 (0, 0))) => show (fun W => W.cell? ⟨wn.heap.size, 1, none⟩ = some (.int .i8 af) ∧ W.cell? ⟨wn.heap.size, 2, none⟩ = some (.int .u64 un)) W from
        ⟨by rw [World.cell?_of_block (a := ⟨wn.heap.size, 1, none⟩) (w := wS) (by rw [hW, eh])]; exact e1, by rw [World.cell?_of_block (a := ⟨wn.heap.size, 2, none⟩) (w := wS) (by rw [hW, eh])]; exact e2⟩)
      have HEH := Lib.hid eh
      have hszS : w.heap.size ≤ wS.heap.size := HXS.out.size
      have HNK := Lib.hid (show n1 + 1 + (Lib.itoa af).length + 1 + (Lib.decDigits un).length ≤ j * 500000 + (k + 1) * 43 from by have h1 := HAL.out; rw [HAKL.out] at h1; omega)
      clear hS hrr how1 hxn e1 e2 eh xS hbs hn how
      go_upto_region 8 with (first | (refine wpList_store_new rfl 54 _ _ rfl _ #[.int .i8 ad, .int .i8 af, .int .u64 un] rfl rfl (by kernel_rfl) rfl (by rfl) ?_))
      rw [HEQ.out]
      try simp only [Act.put]
      clear c0 c1 c2 HEQ
      have hszwS : w.heap.size ≤ wS.heap.size := hszS
      have HXwS := HXS
      have hwr : IntKind.i64.wrap af = af := by rw [IntKind.wrap_i64]; omega
      have hne0 : ¬ u3.ownBlock = some wn.heap.size := fun e => by have := (HLT.out _ e).2; omega
      obtain ⟨z8, hz8⟩ : ∃ Z : World, wS.drew = Z := ⟨_, rfl⟩
      have xz8 : Ext wS z8 := hz8 ▸ Ext.drew _
      have ez8 : z8.heap[wn.heap.size]? = some (.cells #[.int .i8 ad, .int .i8 af, .int .u64 un] 54 (0, 0)) := by rw [Below.block xz8 _ (Array.getElem?_eq_some_iff.1 HEH.out).1]; exact HEH.out
      obtain ⟨y8, hy8⟩ : ∃ Y : World, z8.alloc (.cells #[.int .u8 32] 5) = Y := ⟨_, rfl⟩
      have xy8 : Ext z8 y8 := hy8 ▸ Ext.alloc _ _
      have ey8 : y8.heap[wn.heap.size]? = some (.cells #[.int .i8 ad, .int .i8 af, .int .u64 un] 54 (0, 0)) := by rw [Below.block xy8 _ (Array.getElem?_eq_some_iff.1 ez8).1]; exact ez8
      have oy8 := owns_ext (owns_ext HOW.out xz8) xy8
      have cy8 : y8.cell? ⟨z8.heap.size, 0, none⟩ = some (.int .u8 32) := by rw [← hy8]; simp [go_sem]
      have XY8 := Lib.hid (xz8.trans xy8)
      have szy8 : w.heap.size ≤ y8.heap.size := Nat.le_trans hszwS XY8.out.size
      refine wp_region_noPanic ?_
      refine wp_region_held_drew (S := (fun W => W.cell? ⟨wn.heap.size, 1, none⟩ = some (.int .i8 af) ∧ W.cell? ⟨wn.heap.size, 2, none⟩ = some (.int .u64 un))) (by kernel_rfl) (HSS.out _ (by rw [hz8]; exact ez8)) (fun hHeld => ?_)
      rw [hz8] at hHeld ⊢
      refine wpAnyH_take (i := 0) (v := u3) rfl (by kernel_rfl) (by kernel_rfl) (by kernel_rfl) (fun _ _ _ h => h) (Or.inl ⟨by rfl, by (intro w hSw; (try dsimp only at hSw); go_simp; try (first | omega | (rw [IntKind.wrap_i64]; omega)))⟩) (by assumption) ?_
      try simp only [List.getElem_toArray, List.getElem_cons_zero, List.getElem_cons_succ, Act.put, List.setIfInBounds_toArray, List.set_cons_zero, List.set_cons_succ, Array.toArray_toList]
      refine wpAnyH_take (i := 3) (v := .pointer (some ⟨wn.heap.size, 1, none⟩)) rfl (by kernel_rfl) (by kernel_rfl) (by kernel_rfl) (fun _ _ _ h => h) (Or.inl ⟨by rfl, by (intro w hSw; (try dsimp only at hSw); go_simp; try (first | omega | (rw [IntKind.wrap_i64]; omega)))⟩) (by assumption) ?_
      try simp only [List.getElem_toArray, List.getElem_cons_zero, List.getElem_cons_succ, Act.put, List.setIfInBounds_toArray, List.set_cons_zero, List.set_cons_succ, Array.toArray_toList]
      refine wpAnyH_take (i := 4) (v := .int .i8 af) rfl (by kernel_rfl) (by kernel_rfl) (by kernel_rfl) (fun _ _ _ h => h) (Or.inl ⟨by rfl, by (intro w hSw; (try dsimp only at hSw); go_simp; try (first | omega | (rw [IntKind.wrap_i64]; omega)))⟩) (by assumption) ?_
      try simp only [List.getElem_toArray, List.getElem_cons_zero, List.getElem_cons_succ, Act.put, List.setIfInBounds_toArray, List.set_cons_zero, List.set_cons_succ, Array.toArray_toList]
      refine wpAnyH_take (i := 5) (v := .int .i64 af) rfl (by kernel_rfl) (by kernel_rfl) (by kernel_rfl) (fun _ _ _ h => h) (Or.inl ⟨by rfl, by (intro w hSw; (try dsimp only at hSw); go_simp; try (first | omega | (rw [IntKind.wrap_i64]; omega)))⟩) (by assumption) ?_
      try simp only [List.getElem_toArray, List.getElem_cons_zero, List.getElem_cons_succ, Act.put, List.setIfInBounds_toArray, List.set_cons_zero, List.set_cons_succ, Array.toArray_toList]
      refine wpAnyH_ready (rs := [1]) (by kernel_rfl) (by simp) ?_
      refine AllReadyH.cons (i := 1) rfl (fun K hK => ?_) AllReadyH.nil
      go_simp
      try rw [hy8]
      refine hK.out _ _ (HSS.out _ ey8) (fun hHeld1 => ?_)
      clear hK K
      try simp only [List.getElem_toArray, List.getElem_cons_zero, List.getElem_cons_succ, Act.put, List.setIfInBounds_toArray, List.set_cons_zero, List.set_cons_succ, Array.toArray_toList]
      refine wpAnyH_ready (rs := [2]) (by kernel_rfl) (by simp) ?_
      refine AllReadyH.cons (i := 2) rfl (fun K hK => ?_) AllReadyH.nil
      refine step_append_E elemB rfl (.tmp 20) (.tmp 21) rfl w.heap.size u3 (n1) (Lib.byteCells bs1) (by rfl) oy8 (some ⟨z8.heap.size, 0, none⟩) 1 1 [.int .u8 32] (by rfl) rfl (.inr ⟨_, rfl, fun i u hu => by
        cases i with
        | zero => simp at hu; subst hu; rw [Addr.add_mid]; exact cy8
        | succ i => simp at hu⟩) (by intro u hu; simp at hu; subst hu; rfl) (by omega) (by omega) szy8 ?_
      intro v8 q8 oq8 gq8 tq8
      have eq8 : q8.heap[wn.heap.size]? = some (.cells #[.int .i8 ad, .int .i8 af, .int .u64 un] 54 (0, 0)) := by
        rw [gq8.block _ (Array.getElem?_eq_some_iff.1 ey8).1 (fun e => hne0 e.symm)]; exact ey8
      have xq8 : Ext w q8 := (HXwS.out.trans XY8.out).grownV gq8 (fun i hi => (owns_lt oy8 i hi).1)
      have szq8 : w.heap.size ≤ q8.heap.size := xq8.size
      refine hK.out _ _ (HSS.out _ eq8) (fun hHeld2 => ?_)
      clear hK K
      try simp only [List.getElem_toArray, List.getElem_cons_zero, List.getElem_cons_succ, Act.put, List.setIfInBounds_toArray, List.set_cons_zero, List.set_cons_succ, Array.toArray_toList]
      refine wpAnyH_ready (rs := [6]) (by kernel_rfl) (by simp) ?_
      refine AllReadyH.cons (i := 6) rfl (fun K hK => ?_) AllReadyH.nil
      go_simp
      go_at_call 39
      refine (appInt_any w.heap.size (n1 + 1) af (by omega) (by omega) v8 _ q8 oq8 szq8 (by omega) (HTB.out.on xq8)).mono ?_
      rintro e p8 ⟨a8, rfl, op8, bp8, kp8⟩
      have ep8 : p8.heap[wn.heap.size]? = some (.cells #[.int .i8 ad, .int .i8 af, .int .u64 un] 54 (0, 0)) := kp8 _ _ eq8 (by simp) (fun c fz e => by injection e with _ e2; exact absurd e2 (by decide))
      refine hK.out _ _ (HSS.out _ ep8) (fun hHeld3 => ?_)
      clear hK K
      try simp only [List.getElem_toArray, List.getElem_cons_zero, List.getElem_cons_succ, Act.put, List.setIfInBounds_toArray, List.set_cons_zero, List.set_cons_succ, Array.toArray_toList]
      refine wpAnyH_take (i := 7) (v := a8) rfl (by kernel_rfl) (by kernel_rfl) (by kernel_rfl) (fun _ _ _ h => h) (Or.inl ⟨by rfl, by (intro w hSw; (try dsimp only at hSw); go_simp; try (first | omega | (rw [IntKind.wrap_i64]; omega)))⟩) (by assumption) ?_
      try simp only [List.getElem_toArray, List.getElem_cons_zero, List.getElem_cons_succ, Act.put, List.setIfInBounds_toArray, List.set_cons_zero, List.set_cons_succ, Array.toArray_toList]
      refine wpAnyH_done (by kernel_rfl) ?_ _
      refine NoPanic.normal ?_
      have HEp := Lib.hid ep8
      have HOp := Lib.hid op8
      have HXp8 := Lib.hid (show Ext w p8 from xq8.trans' bp8)
      have hszp8 : w.heap.size ≤ p8.heap.size := HXp8.out.size
      have hne8 : ¬ a8.ownBlock = some wn.heap.size := fun e => by
        have h1 := HOp.out
        rcases h1.2 with ⟨rfl, -⟩ | ⟨g, cap, cur, rfl, -, hg, -⟩
        · cases e
        · have e2 : g = wn.heap.size := by injection e
          have h2 := HEp.out
          rw [← e2, hg] at h2
          injection h2 with h2
          injection h2 with _ hg2
          exact absurd hg2 (by decide)
      have hfl := HFL.out
      have hdl := HDL.out
      have hnk := HNK.out
      clear hHeld hHeld1 hHeld2 hHeld3 ep8 op8 bp8 kp8 eq8 xq8 szq8 gq8 tq8 oq8 hy8 cy8 oy8 ey8 ez8 xy8 xz8 hz8 hwr
      go_upto_region 9 with fail
      obtain ⟨z9, hz9⟩ : ∃ Z : World, p8.drew = Z := ⟨_, rfl⟩
      have xz9 : Ext p8 z9 := hz9 ▸ Ext.drew _
      have ez9 : z9.heap[wn.heap.size]? = some (.cells #[.int .i8 ad, .int .i8 af, .int .u64 un] 54 (0, 0)) := by rw [Below.block xz9 _ (Array.getElem?_eq_some_iff.1 HEp.out).1]; exact HEp.out
      obtain ⟨y9, hy9⟩ : ∃ Y : World, z9.alloc (.cells #[.int .u8 61] 5) = Y := ⟨_, rfl⟩
      have xy9 : Ext z9 y9 := hy9 ▸ Ext.alloc _ _
      have ey9 : y9.heap[wn.heap.size]? = some (.cells #[.int .i8 ad, .int .i8 af, .int .u64 un] 54 (0, 0)) := by rw [Below.block xy9 _ (Array.getElem?_eq_some_iff.1 ez9).1]; exact ez9
      have oy9 := owns_ext (owns_ext HOp.out xz9) xy9
      have cy9 : y9.cell? ⟨z9.heap.size, 0, none⟩ = some (.int .u8 61) := by rw [← hy9]; simp [go_sem]
      have XY9 := Lib.hid (xz9.trans xy9)
      have szy9 : w.heap.size ≤ y9.heap.size := Nat.le_trans hszp8 XY9.out.size
      refine wp_region_noPanic ?_
      refine wp_region_held_drew (S := (fun W => W.cell? ⟨wn.heap.size, 1, none⟩ = some (.int .i8 af) ∧ W.cell? ⟨wn.heap.size, 2, none⟩ = some (.int .u64 un))) (by kernel_rfl) (HSS.out _ (by rw [hz9]; exact ez9)) (fun hHeld => ?_)
      rw [hz9] at hHeld ⊢
      refine wpAnyH_take (i := 0) (v := a8) rfl (by kernel_rfl) (by kernel_rfl) (by kernel_rfl) (fun _ _ _ h => h) (Or.inl ⟨by rfl, by (intro w hSw; (try dsimp only at hSw); go_simp; try (first | omega | (rw [IntKind.wrap_i64]; omega)))⟩) (by assumption) ?_
      try simp only [List.getElem_toArray, List.getElem_cons_zero, List.getElem_cons_succ, Act.put, List.setIfInBounds_toArray, List.set_cons_zero, List.set_cons_succ, Array.toArray_toList]
      refine wpAnyH_take (i := 3) (v := .pointer (some ⟨wn.heap.size, 2, none⟩)) rfl (by kernel_rfl) (by kernel_rfl) (by kernel_rfl) (fun _ _ _ h => h) (Or.inl ⟨by rfl, by (intro w hSw; (try dsimp only at hSw); go_simp; try (first | omega | (rw [IntKind.wrap_i64]; omega)))⟩) (by assumption) ?_
      try simp only [List.getElem_toArray, List.getElem_cons_zero, List.getElem_cons_succ, Act.put, List.setIfInBounds_toArray, List.set_cons_zero, List.set_cons_succ, Array.toArray_toList]
      refine wpAnyH_take (i := 4) (v := .int .u64 un) rfl (by kernel_rfl) (by kernel_rfl) (by kernel_rfl) (fun _ _ _ h => h) (Or.inl ⟨by rfl, by (intro w hSw; (try dsimp only at hSw); go_simp; try (first | omega | (rw [IntKind.wrap_i64]; omega)))⟩) (by assumption) ?_
      try simp only [List.getElem_toArray, List.getElem_cons_zero, List.getElem_cons_succ, Act.put, List.setIfInBounds_toArray, List.set_cons_zero, List.set_cons_succ, Array.toArray_toList]
      refine wpAnyH_ready (rs := [1]) (by kernel_rfl) (by simp) ?_
      refine AllReadyH.cons (i := 1) rfl (fun K hK => ?_) AllReadyH.nil
      go_simp
      try rw [hy9]
      refine hK.out _ _ (HSS.out _ ey9) (fun hHeld1 => ?_)
      clear hK K
      try simp only [List.getElem_toArray, List.getElem_cons_zero, List.getElem_cons_succ, Act.put, List.setIfInBounds_toArray, List.set_cons_zero, List.set_cons_succ, Array.toArray_toList]
      refine wpAnyH_ready (rs := [2]) (by kernel_rfl) (by simp) ?_
      refine AllReadyH.cons (i := 2) rfl (fun K hK => ?_) AllReadyH.nil
      refine step_append_E elemB rfl (.tmp 27) (.tmp 28) rfl w.heap.size a8 (n1 + 1 + (Lib.itoa af).length) (Lib.byteCells bs1 ++ [.int .u8 32] ++ Lib.byteCells (Lib.itoa af)) (by rfl) oy9 (some ⟨z9.heap.size, 0, none⟩) 1 1 [.int .u8 61] (by rfl) rfl (.inr ⟨_, rfl, fun i u hu => by
        cases i with
        | zero => simp at hu; subst hu; rw [Addr.add_mid]; exact cy9
        | succ i => simp at hu⟩) (by intro u hu; simp at hu; subst hu; rfl) (by omega) (by omega) szy9 ?_
      intro v9 q9 oq9 gq9 tq9
      have eq9 : q9.heap[wn.heap.size]? = some (.cells #[.int .i8 ad, .int .i8 af, .int .u64 un] 54 (0, 0)) := by
        rw [gq9.block _ (Array.getElem?_eq_some_iff.1 ey9).1 (fun e => hne8 e.symm)]; exact ey9
      have xq9 : Ext w q9 := (HXp8.out.trans XY9.out).grownV gq9 (fun i hi => (owns_lt oy9 i hi).1)
      have szq9 : w.heap.size ≤ q9.heap.size := xq9.size
      refine hK.out _ _ (HSS.out _ eq9) (fun hHeld2 => ?_)
      clear hK K
      try simp only [List.getElem_toArray, List.getElem_cons_zero, List.getElem_cons_succ, Act.put, List.setIfInBounds_toArray, List.set_cons_zero, List.set_cons_succ, Array.toArray_toList]
      refine wpAnyH_ready (rs := [5]) (by kernel_rfl) (by simp) ?_
      refine AllReadyH.cons (i := 5) rfl (fun K hK => ?_) AllReadyH.nil
      go_simp
      go_at_call 40
      refine (appUint_any w.heap.size (n1 + 1 + (Lib.itoa af).length + 1) un hunb v9 _ q9 oq9 szq9 (by omega) (HTB.out.on xq9).here).mono ?_
      rintro e p9 ⟨a9, rfl, op9, bp9, kp9⟩
      have ep9 : p9.heap[wn.heap.size]? = some (.cells #[.int .i8 ad, .int .i8 af, .int .u64 un] 54 (0, 0)) := kp9 _ _ eq9 (by simp) (fun c fz e => by injection e with _ e2; exact absurd e2 (by decide))
      refine hK.out _ _ (HSS.out _ ep9) (fun hHeld3 => ?_)
      clear hK K
      try simp only [List.getElem_toArray, List.getElem_cons_zero, List.getElem_cons_succ, Act.put, List.setIfInBounds_toArray, List.set_cons_zero, List.set_cons_succ, Array.toArray_toList]
      refine wpAnyH_take (i := 6) (v := a9) rfl (by kernel_rfl) (by kernel_rfl) (by kernel_rfl) (fun _ _ _ h => h) (Or.inl ⟨by rfl, by (intro w hSw; (try dsimp only at hSw); go_simp; try (first | omega | (rw [IntKind.wrap_i64]; omega)))⟩) (by assumption) ?_
      try simp only [List.getElem_toArray, List.getElem_cons_zero, List.getElem_cons_succ, Act.put, List.setIfInBounds_toArray, List.set_cons_zero, List.set_cons_succ, Array.toArray_toList]
      refine wpAnyH_done (by kernel_rfl) ?_ _
      refine NoPanic.normal ?_
      have HXp9 := Lib.hid (show Ext w p9 from xq9.trans' bp9)
      have HBS := Lib.hid (show (bs1 ++ actK a) = keyK (l.take j) ++ (r.take (k + 1)).flatMap actK from by
        rw [hbs1.out, HTK.out]; simp)
      have HN := Lib.hid (show n1 + 1 + (Lib.itoa af).length + 1 + (Lib.decDigits un).length = (bs1 ++ actK a).length from by
        rw [List.length_append, HAKL.out, ← hn1.out]; omega)
      have HO9 := Lib.hid (show p9.ownsRow w.heap.size 5 1 a9 (n1 + 1 + (Lib.itoa af).length + 1 + (Lib.decDigits un).length) (Lib.byteCells (bs1 ++ actK a)) from by
        have e : Lib.byteCells (bs1 ++ actK a) = Lib.byteCells bs1 ++ [.int .u8 32] ++ Lib.byteCells (Lib.itoa af) ++ [.int .u8 61] ++ Lib.byteCells (Lib.decDigits un) := by
          rw [HAK.out]; simp [Lib.byteCells]
        rw [e]
        have := op9
        rw [Lib.byteCells_length] at this
        exact this)
      clear hHeld hHeld1 hHeld2 hHeld3 ep9 op9 bp9 kp9 eq9 xq9 szq9 gq9 tq9 oq9 hy9 cy9 oy9 ey9 ez9 xy9 xz9 hz9
      go_wp2_with fail
      go_roundw
      case rel => exact ⟨k + 1, n1 + 1 + (Lib.itoa af).length + 1 + (Lib.decDigits un).length, bs1 ++ actK a, by omega, by go_num, HBS.out, HN.out, hnk, HO9.out, HXp9.out⟩
      case measure => simp [intOf]; omega
end Go.Proofs.YtehdddilcakmlaaDoor
