/- policy.name: may a query bear it. -/
import Derived.Test.YtddeelepaiklgaaBase
import Derived.Laws.IdiomStrings
import Derived.Laws.BitsAllLaws
import Derived.Test.YtddeelepaiklgaaPol
import Derived.Test.YtddeelepaiklgaaRange
import Derived.Test.YtddeelepaiklgaaSet
import Derived.StringKeys
import Derived.Test.YtddeelepaiklgaaAll
import Derived.Test.YtddeelepaiklgaaMap
import Derived.WideKeyEntry
import Derived.Test.YtddeelepaiklgaaSame
import Derived.Test.YtddeelepaiklgaaTwo
import Derived.Laws.ResultCell
import Derived.Laws.NewBlocks
namespace Go.Proofs.Ytddeelepaiklgaa
open Go.RowKit
set_option linter.unusedSimpArgs false

def nameC (i c : Nat) : Bool := decide (c = 95) || (decide (97 ≤ c ||| 32) && decide (c ||| 32 ≤ 122)) || (decide (0 < i) && (decide (48 ≤ c) && decide (c ≤ 57)))
def nameL : Nat → List UInt8 → Bool
  | _, [] => true
  | i, c :: cs => nameC i c.toNat && nameL (i + 1) cs
def nameB (s : ByteArray) : Bool := decide (s.size ≠ 0) && (decide (s.size ≤ 32) && nameL 0 s.data.toList)

set_option maxHeartbeats 2000000 in
set_option maxRecDepth 100000 in
theorem name_any (s : ByteArray) (w : World) :
    Calls Try.prog 39 #[.string s] w fun e w' => e = .returned (.bool (nameB s)) ∧ Ext w w' := by
  by_cases h0 : s.size = 0
  · have hs : s = ⟨#[]⟩ := ByteArray.ext (Array.eq_empty_of_size_eq_zero h0)
    subst hs
    go_enter Try.func39, Try.ntmps39
    go_wp2_with fail
    go_ret
    exact ⟨rfl, Ext.refl _⟩
  have hne : s ≠ ⟨#[]⟩ := fun e => h0 (by rw [e]; rfl)
  have h0'' := h0
  have hie : s.toList.isEmpty = false := by
    rw [ByteArray.toList_eq]
    cases hl : s.data.toList with
    | nil => exact absurd (by rw [ByteArray.size, ← Array.length_toList, hl]; rfl) h0
    | cons _ _ => rfl
  have h0' : ¬ s.toList = [] := fun e => by rw [e] at hie; cases hie
  by_cases h32 : s.size ≤ 32
  · have HF := Lib.hid (show nameB s = nameL 0 s.data.toList from by simp [nameB, h0, h32])
    have hconv := run_bytes_of_string (P := Try.prog) w 9 112 5 s Try.underlying9 Try.underlying112 Try.underlying5
    have HB := Lib.hid (fun j (hj : j < s.data.size) => show (w.drew.alloc (.cells (bytesRow s (grownCap w s.size 0 5)) 5 ((bytesRow s (grownCap w s.size 0 5)).size, (bytesRow s (grownCap w s.size 0 5)).size + 1))).cell? ⟨w.heap.size, j, none⟩ = some (.int .u8 (s.data[j].toNat : Int)) from by
      have := World.cell?_alloc_mark w.drew (bytesRow s (grownCap w s.size 0 5)) 5 ((bytesRow s (grownCap w s.size 0 5)).size, (bytesRow s (grownCap w s.size 0 5)).size + 1) j
      rw [bytesRow_at s _ j hj] at this
      exact this)
    have HX := Lib.hid (show Ext w (w.drew.alloc (.cells (bytesRow s (grownCap w s.size 0 5)) 5 ((bytesRow s (grownCap w s.size 0 5)).size, (bytesRow s (grownCap w s.size 0 5)).size + 1))) from (Ext.drew w).andAlloc _)
    generalize w.drew.alloc (.cells (bytesRow s (grownCap w s.size 0 5)) 5 ((bytesRow s (grownCap w s.size 0 5)).size, (bytesRow s (grownCap w s.size 0 5)).size + 1)) = wB at *
    generalize grownCap w s.size 0 5 = cap at *
    clear h0 hne h0''
    go_enter Try.func39, Try.ntmps39
    go_wp2_with fail
    go_loopw [15] (fun i wr => ∃ (j : Nat), j ≤ s.size ∧ i = .int .i64 j ∧ Hid (wr = wB) ∧ Hid (nameL j (s.data.toList.drop j) = nameL 0 s.data.toList)) (fun i _ => s.size - (intOf i).toNat)
    case atStart => exact ⟨0, Nat.zero_le _, rfl, rfl, rfl⟩
    case round =>
      obtain ⟨j, hj, rfl, hw, hR⟩ := hrel
      have hw' := hw.out
      subst hw'
      clear hw
      by_cases hlt : j < s.size
      · have hjd : j < s.data.size := hlt
        have hc := HB.out j hjd
        have hR2 : (nameC j (s.data[j].toNat) && nameL (j + 1) (s.data.toList.drop (j + 1))) = nameL 0 s.data.toList := by
          have := hR.out
          rw [List.drop_eq_getElem_cons (by simpa using hjd), nameL, Array.getElem_toList] at this
          exact this
        have hc256 : s.data[j].toNat < 256 := UInt8.toNat_lt _
        generalize s.data[j].toNat = c at *
        have hor : bits BinOp.or IntKind.u8 (c : Int) 32 = ((c ||| 32 : Nat) : Int) := u8_or_nat c 32 hc256 (by omega)
        have ho256 : c ||| 32 < 256 := Nat.or_lt_two_pow (n := 8) hc256 (by omega)
        have HNC := Lib.hid (show nameC j c = (decide (c = 95) || (decide (97 ≤ c ||| 32) && decide (c ||| 32 ≤ 122)) || (decide (0 < j) && (decide (48 ≤ c) && decide (c ≤ 57)))) from rfl)
        generalize c ||| 32 = o at *
        have HR2 := Lib.hid hR2
        have HFT := Lib.hid (fun (h : nameC j c = true) => show nameL (j + 1) (s.data.toList.drop (j + 1)) = nameL 0 s.data.toList by rw [← HR2.out, h, Bool.true_and])
        have HFF := Lib.hid (fun (h : nameC j c = false) => show nameB s = false by rw [HF.out, ← HR2.out, h, Bool.false_and])
        clear hR hR2
        by_cases h95 : c = 95
        · have HT := Lib.hid (show nameC j c = true from by rw [HNC.out]; simp [h95])
          subst h95
          go_wp2_with fail
          go_roundw
          case rel => exact ⟨j + 1, by omega, by go_num, True.intro, HFT.out HT.out⟩
          case measure => simp [intOf]; omega
        by_cases hl : 97 ≤ o ∧ o ≤ 122
        · obtain ⟨h97, h122⟩ := hl
          have HT := Lib.hid (show nameC j c = true from by rw [HNC.out]; simp [h97, h122])
          go_wp2_with fail
          go_roundw
          case rel => exact ⟨j + 1, by omega, by go_num, True.intro, HFT.out HT.out⟩
          case measure => simp [intOf]; omega
        by_cases hd : 0 < j ∧ 48 ≤ c ∧ c ≤ 57
        · obtain ⟨h1, h48, h57⟩ := hd
          have HT := Lib.hid (show nameC j c = true from by rw [HNC.out]; simp [h1, h48, h57])
          by_cases h97 : 97 ≤ o
          · have h122 : ¬ o ≤ 122 := fun h => hl ⟨h97, h⟩
            clear hl
            go_wp2_with fail
            go_roundw
            case rel => exact ⟨j + 1, by omega, by go_num, True.intro, HFT.out HT.out⟩
            case measure => simp [intOf]; omega
          · clear hl
            go_wp2_with fail
            go_roundw
            case rel => exact ⟨j + 1, by omega, by go_num, True.intro, HFT.out HT.out⟩
            case measure => simp [intOf]; omega
        · have HT := Lib.hid (show nameC j c = false from by
            rw [HNC.out, Bool.eq_false_iff]
            intro h
            simp only [Bool.or_eq_true, Bool.and_eq_true, decide_eq_true_eq] at h
            rcases h with (h | h) | h
            · exact h95 h
            · exact hl h
            · exact hd h)
          go_wp2_with fail
          all_goals first
            | (exfalso; omega)
            | (go_ret; exact ⟨by rw [HFF.out HT.out]; rfl, HX.out⟩)
      · have HE := Lib.hid (show nameB s = true from by
          rw [HF.out, ← hR.out, List.drop_of_length_le (by simp; exact Nat.le_of_not_lt hlt), nameL])
        clear hR
        go_wp2_with fail
        go_ret
        exact ⟨by rw [HE.out]; rfl, HX.out⟩
  · have HF := Lib.hid (show nameB s = false from by simp [nameB, h0, h32])
    go_enter Try.func39, Try.ntmps39
    go_wp2_with fail
    go_ret
    exact ⟨by rw [HF.out]; rfl, Ext.refl _⟩
end Go.Proofs.Ytddeelepaiklgaa
/- Policies with queries, as values. -/
namespace Go.Proofs.Ytddeelepaiklgaa
open Go.RowKit Go.Maps
set_option linter.unusedSimpArgs false

/-- a string that fits memory -/
instance decB : DecidableEq ByteArray := fun a b => decidable_of_iff (a.data = b.data) ⟨fun h => ByteArray.ext h, fun h => by rw [h]⟩
abbrev Str := { s : ByteArray // s.size ≤ maxLen }
abbrev Qr := Str × Tm
def kvS (s : Str) : Value := .string s.1
def vvI (n : Nat) : Value := .int .i64 n
theorem codedS : Coded Try.prog 9 kvS where
  keyed := string_keyed Try.underlying9
  key := fun s => ⟨_, WideMaps.keyOf_string_mk Try.underlying9 s.2⟩
  inj := fun h => Subtype.ext (by simpa [kvS] using h)

/-- the five cells from ⟨b, o⟩ on read as a query -/
def QAt (w : World) (q : Qr) (b o : Nat) : Prop := w.cell? ⟨b, o, none⟩ = some (.string q.1.1) ∧ q.2.At w b (o + 1)
def QsAt (w : World) : List Qr → Nat → Nat → Prop
  | [], _, _ => True
  | q :: qs, b, o => QAt w q b o ∧ QsAt w qs b (o + 5)
theorem QsAt_get {w : World} : ∀ {qs : List Qr} {b o : Nat}, QsAt w qs b o → ∀ i (h : i < qs.length), QAt w (qs[i]) b (o + i * 5)
  | q :: qs, b, o, h, 0, _ => by simpa using h.1
  | q :: qs, b, o, h, i + 1, hi => by
    have := QsAt_get h.2 i (by simpa using hi)
    simpa [Nat.add_mul, Nat.add_assoc, Nat.add_comm 5] using this
theorem QAt.later {w w' : World} {q : Qr} {b o : Nat} (hl : Later w w') (h : QAt w q b o) : QAt w' q b o := ⟨hl _ _ h.1, h.2.later hl⟩
theorem QsAt.later {w w' : World} (hl : Later w w') : ∀ {qs : List Qr} {b o : Nat}, QsAt w qs b o → QsAt w' qs b o
  | [], _, _, _ => trivial
  | _ :: _, _, _, h => ⟨h.1.later hl, QsAt.later hl h.2⟩
/-- a slice of queries -/
def Qs (w : World) (qs : List Qr) (v : Value) : Prop :=
  ∃ p len cap, v = .slice p len cap ∧ len = qs.length ∧ len ≤ cap ∧ cap ≤ 9223372036854775807 ∧ (qs = [] ∨ ∃ b o, p = some ⟨b, o, none⟩ ∧ QsAt w qs b o)
theorem Qs.later {w w' : World} (hl : Later w w') {qs : List Qr} {v : Value} (h : Qs w qs v) : Qs w' qs v := by
  obtain ⟨p, len, cap, rfl, h1, h2, h3, h4⟩ := h
  exact ⟨p, len, cap, rfl, h1, h2, h3, h4.imp id fun ⟨b, o, hp, hq⟩ => ⟨b, o, hp, hq.later hl⟩⟩
/-- a policy by value -/
def PVal (w : World) (t : Tm) (qs : List Qr) (v : Value) : Prop :=
  ∃ p len cap qv, v = .agg #[.int .i8 t.op, .int .i8 t.fld, .int .u64 t.n, .slice p len cap, qv] ∧ t.Val w (.agg #[.int .i8 t.op, .int .i8 t.fld, .int .u64 t.n, .slice p len cap]) ∧ Qs w qs qv
theorem PVal.later {w w' : World} (hl : Later w w') {t : Tm} {qs : List Qr} {v : Value} (h : PVal w t qs v) : PVal w' t qs v := by
  obtain ⟨p, len, cap, qv, rfl, h1, h2⟩ := h
  exact ⟨p, len, cap, qv, rfl, h1.later hl, h2.later hl⟩

theorem infoT : (Try.prog.info? 31).map (fun i => (i.zero, i.size, i.bytes)) = some (some (.agg #[.int .i8 0, .int .i8 0, .int .u64 0, .slice none 0 0]), 4, 40) := by kernel_rfl
def encT (p : Tm × Value) : List Value := [.int .i8 p.1.op, .int .i8 p.1.fld, .int .u64 p.1.n, p.2]
def flatT (l : List (Tm × Value)) : List Value := l.flatMap encT
theorem length_encT (p : Tm × Value) : (encT p).length = 4 := rfl
theorem encT_one {w : World} {p : Tm × Value} (h : p.1.Val w (.agg (encT p).toArray)) : ∀ v ∈ encT p, v.oneCell' = true := by
  obtain ⟨cs, he, s, rfl, -, -, -, a, b, c, rfl, -⟩ := h
  have : p.2 = .slice a b c := by simp [encT] at he; exact he
  intro v hv
  simp only [encT, this, List.mem_cons, List.not_mem_nil, or_false] at hv
  rcases hv with rfl | rfl | rfl | rfl <;> rfl

/-- append(l, t) of terms, to a slice that the call owns -/
theorem wpList_append_T {ops : Array Oper} {rest : List Oper} {o : Oper} {a : Act} {w : World} {Q : Exit → Act → World → Prop} (hgd : o.guard = none) (s x : Operand)
    (ho : o.op = .call { callee := .builtin .append, args := #[s, x], argTypes := #[29, 29] }) (base : Nat) (v : Value) (l : List (Tm × Value)) (hs : a.eval s = v) (hown : w.ownsRow base 31 4 v l.length (flatT l))
    (b : Nat) (y : Tm × Value) (hx : a.eval x = .slice (some ⟨b, 0, none⟩) 1 1) (hc : w.rangeAt b 0 (encT y)) (hy : ∀ v ∈ encT y, v.oneCell' = true) (hlen : l.length < 1000000000) (hbase : base ≤ w.heap.size)
    (hK : ∀ v' w', w'.ownsRow base 31 4 v' (l ++ [y]).length (flatT (l ++ [y])) → w.grownBy w' v.ownBlock → wpList Try.prog ops Q rest (a.put o.dst v') w') : wpList Try.prog ops Q (o :: rest) a w := by
  obtain ⟨i0, hi0, hz0, hz1, hz2⟩ := info_parts infoT
  refine wpList_append_own w hgd s x 29 ho base 31 i0 _ 4 40 Try.underlying29 hi0 hz0 hz1 hz2 rfl (by omega) v l.length (flatT l) hs hown ⟨b, 0, none⟩ 1 1 (encT y) hx (by rw [length_encT])
    (fun j u hu => by rw [Addr.add_mid]; exact hc j u hu) hy (by unfold maxLen; omega) (by omega) hbase ?_
  intro v' w' hown' hg _
  refine hK v' w' ?_ hg
  have e : flatT (l ++ [y]) = flatT l ++ encT y := by simp [flatT]
  rw [e, List.length_append]
  exact hown'

/-- a row of terms of one's own reads as terms -/
theorem tms_of_owns {w : World} {base : Nat} {v : Value} {l : List (Tm × Value)} (h : w.ownsRow base 31 4 v l.length (flatT l)) (hv : ∀ p ∈ l, p.1.Val w (.agg (encT p).toArray)) : Tms w (l.map (·.1)) v := by
  rcases h.2 with ⟨rfl, h0⟩ | ⟨g, cap, cur, rfl, hb, hc, hle, hcm, hrest⟩
  · exact ⟨none, 0, 0, rfl, by rw [List.length_map]; exact h0.symm, Nat.le_refl _, by omega, .inl (by rw [List.length_eq_zero_iff.1 h0]; rfl)⟩
  · refine ⟨some ⟨g, 0, none⟩, _, cap, rfl, by rw [List.length_map], hle, hcm, .inr ⟨g, 0, rfl, Tm.AllAt_of fun i hi => ?_⟩⟩
    have hi' : i < l.length := by simpa using hi
    have hr := rangeAt_get (enc := encT) (k := 4) length_encT (ownsRow_range h) i hi'
    rw [List.getElem_map]
    exact (hv _ (List.getElem_mem hi')).at (by simpa using hr)

theorem Ext.grow' {w a c : World} {v : Value} (h : Ext w a) (g : a.grownBy c v.ownBlock) (hb : ∀ i, v.ownBlock = some i → w.heap.size ≤ i) : Ext w c :=
  h.trans' ⟨g.os, g.tape, g.output, g.size, fun i hi => g.block i (Nat.lt_of_lt_of_le hi h.size) (fun e => by have := hb i e.symm; omega)⟩

/-- policy.Check, in plain words -/
def qsB : List Str → List Qr → Bool
  | _, [] => true
  | seen, q :: qs => nameB q.1.1 && (!seen.any (fun s => decide (s = q.1)) && (q.2.right true && qsB (seen ++ [q.1]) qs))
def checkP (t : Tm) (qs : List Qr) : Int := if 32 < qs.length then 200 else if bigB (t :: qs.map (·.2)) then 200 else if t.right false then (if qsB [] qs then 0 else 170) else 170
theorem checkP_zero {t : Tm} {qs : List Qr} (h : checkP t qs = 0) : qs.length ≤ 32 ∧ bigB (t :: qs.map (·.2)) = false ∧ t.right false = true ∧ qsB [] qs = true := by
  unfold checkP at h
  split at h
  · cases h
  split at h
  · cases h
  split at h
  · split at h
    · rename_i h1 h2 h3 h4
      exact ⟨by omega, by simpa using h2, h3, h4⟩
    · cases h
  · cases h
end Go.Proofs.Ytddeelepaiklgaa
/- policy.Check, with queries. -/
namespace Go.Proofs.Ytddeelepaiklgaa
open Go.RowKit Go.Maps
set_option linter.unusedSimpArgs false

theorem qs_cells {w : World} {q : Qr} {b o : Nat} (h : QAt w q b o) : ∃ p len cap, w.cell? ⟨b, o, none⟩ = some (.string q.1.1) ∧ w.cell? ⟨b, o + 1, none⟩ = some (.int .i8 q.2.op) ∧ w.cell? ⟨b, o + 2, none⟩ = some (.int .i8 q.2.fld) ∧ w.cell? ⟨b, o + 3, none⟩ = some (.int .u64 q.2.n) ∧ w.cell? ⟨b, o + 4, none⟩ = some (.slice p len cap) ∧
    q.2.Val w (.agg #[.int .i8 q.2.op, .int .i8 q.2.fld, .int .u64 q.2.n, .slice p len cap]) := by
  obtain ⟨cs, hv, hr, -⟩ := h.2.val
  have hv' := hv
  obtain ⟨cs', he, s, rfl, -, -, -, p, len, cap, rfl, -⟩ := hv
  cases he
  refine ⟨p, len, cap, h.1, ?_, ?_, ?_, ?_, hv'⟩
  · simpa using hr 0 _ rfl
  · simpa [Nat.add_assoc] using hr 1 _ rfl
  · simpa [Nat.add_assoc] using hr 2 _ rfl
  · simpa [Nat.add_assoc] using hr 3 _ rfl

theorem zeroI (w : World) : (zeroValue 3).run Try.prog w = .ok (.int .i64 0) w := by kernel_rfl
theorem look_one {x : Str} : ∀ {l : List Str}, look x (l.map fun n => (n, 1)) = if l.any (fun s => decide (s = x)) then some 1 else none
  | [] => rfl
  | y :: ys => by
    by_cases h : y = x
    · rw [List.any_cons, decide_eq_true h, Bool.true_or, if_pos rfl, List.map_cons, look, if_pos h]
    · rw [List.any_cons, decide_eq_false h, Bool.false_or, List.map_cons, look, if_neg h, look_one]
theorem not_anyS {x : Str} {l : List Str} (h : l.any (fun s => decide (s = x)) = false) : x ∉ l := fun hm => by
  have : l.any (fun s => decide (s = x)) = true := List.any_eq_true.2 ⟨x, hm, by simp⟩
  rw [h] at this; cases this
theorem keys_one {l : List Str} (h : l.Nodup) : (((l.map fun n => (n, 1)) : List (Str × Nat)).map (·.1)).Nodup := by
  rw [List.map_map]; exact (by simpa using h : (l.map fun n => n).Nodup)

set_option maxHeartbeats 4000000 in
set_option maxRecDepth 100000 in
theorem checkQ_any (t : Tm) (qs : List Qr) (v : Value) (w : World) (hv : PVal w t qs v) :
    Calls Try.prog 19 #[v] w fun e w' => e = .returned (.int .i64 (checkP t qs)) ∧ Ext w w' := by
  obtain ⟨p, len, cap, _, rfl, hvt, pq, lq, cq, rfl, hlen, hlc, hcm, hks⟩ := hv
  have HL := Lib.hid hlen
  by_cases h32 : 32 < lq
  · have HF := Lib.hid (show checkP t qs = 200 from by unfold checkP; rw [if_pos (by omega)])
    go_enter Try.func19, Try.ntmps19
    go_wp2_with fail
    go_ret
    exact ⟨by rw [HF.out]; rfl, Ext.alloc _ _⟩
  have HP := Lib.hid (show checkP t qs = if bigB (t :: qs.map (·.2)) then 200 else if t.right false then (if qsB [] qs then 0 else 170) else 170 from by unfold checkP; rw [if_neg (by omega)])
  obtain ⟨wA, hA⟩ : ∃ W : World, w.alloc (.cells #[.int .i8 t.op, .int .i8 t.fld, .int .u64 t.n, .slice p len cap, .slice pq lq cq] 34) = W := ⟨_, rfl⟩
  have xA : Ext w wA := hA ▸ Ext.alloc _ _
  have sA : wA.heap.size = w.heap.size + 1 := by rw [← hA, World.size_alloc]
  have rA : wA.rangeAt w.heap.size 0 [.int .i8 t.op, .int .i8 t.fld, .int .u64 t.n, .slice p len cap, .slice pq lq cq] := by
    have := rangeAt_new w #[.int .i8 t.op, .int .i8 t.fld, .int .u64 t.n, .slice p len cap, .slice pq lq cq] 34
    rw [hA] at this
    exact this
  obtain ⟨wB, hB⟩ : ∃ W : World, wA.alloc (.cells #[.int .i8 t.op, .int .i8 t.fld, .int .u64 t.n, .slice p len cap] 31) = W := ⟨_, rfl⟩
  have xB : Ext wA wB := hB ▸ Ext.alloc _ _
  have sB : wB.heap.size = w.heap.size + 2 := by rw [← hB, World.size_alloc, sA]
  have HO := Lib.hid (show wB.ownsRow (w.heap.size + 1) 31 4 (.slice (some ⟨w.heap.size + 1, 0, none⟩) 1 1) [(t, Value.slice p len cap)].length (flatT [(t, Value.slice p len cap)]) from by
    have := World.ownsRow_lit (base := w.heap.size + 1) (e := 31) (size := 4) wA #[.int .i8 t.op, .int .i8 t.fld, .int .u64 t.n, .slice p len cap] 1 (by omega) (by unfold maxLen; omega) rfl
    rw [hB, sA] at this
    exact this)
  have HRA := Lib.hid (fun W (hW : Ext wA W) => World.rangeAt.later hW.later rA)
  have HX := Lib.hid xA
  have HXB := Lib.hid xB
  have HEQ := Lib.hid (show w.alloc (.cells #[.int .i8 t.op, .int .i8 t.fld, .int .u64 t.n, .slice p len cap, .slice pq lq cq] 34) = wA ∧ wA.alloc (.cells #[.int .i8 t.op, .int .i8 t.fld, .int .u64 t.n, .slice p len cap] 31) = wB from ⟨hA, hB⟩)
  have HVT := Lib.hid (fun W (hW : Ext wA W) => hvt.later (xA.trans hW).later)
  have HQ := Lib.hid (show qs = [] ∨ ∃ b o, pq = some ⟨b, o, none⟩ ∧ ∀ W, Ext wA W → QsAt W qs b o from hks.imp id fun ⟨b, o, hp, hq⟩ => ⟨b, o, hp, fun W hW => hq.later (xA.trans hW).later⟩)
  have cs5 : ∀ W, Ext wA W → W.cell? ⟨w.heap.size, 0, none⟩ = some (.int .i8 t.op) ∧ W.cell? ⟨w.heap.size, 1, none⟩ = some (.int .i8 t.fld) ∧ W.cell? ⟨w.heap.size, 2, none⟩ = some (.int .u64 t.n) ∧ W.cell? ⟨w.heap.size, 3, none⟩ = some (.slice p len cap) ∧ W.cell? ⟨w.heap.size, 4, none⟩ = some (.slice pq lq cq) := fun W hW => by
    have hr := HRA.out W hW
    exact ⟨by simpa using hr 0 _ rfl, by simpa using hr 1 _ rfl, by simpa using hr 2 _ rfl, by simpa using hr 3 _ rfl, by simpa using hr 4 _ rfl⟩
  have HC5 := Lib.hid cs5
  obtain ⟨a0, a1, a2, a3, a4⟩ := cs5 _ (Ext.refl _)
  have hsAB : wA.heap.size ≤ wB.heap.size := xB.size
  clear rA xA hA xB hB hvt hks hlen cs5
  go_enter Try.func19, Try.ntmps19
  go_upto_region 1 with fail
  rw [HEQ.out.1]
  go_upto_region 4 with fail
  rw [HEQ.out.2]
  try rw [sA]
  clear HEQ a0 a1 a2 a3 a4
  obtain ⟨b0, b1, b2, b3, b4⟩ := HC5.out _ HXB.out
  go_wp2_with fail
  clear b0 b1 b2 b3 b4
  go_loopw [3, 19] (fun u i wr => ∃ (j : Nat) (l : List (Tm × Value)), j ≤ lq ∧ i = .int .i64 j ∧ wr.ownsRow (w.heap.size + 1) 31 4 u l.length (flatT l) ∧ Hid (l.map (·.1) = t :: (qs.take j).map (·.2)) ∧ Hid (∀ y ∈ l, y.1.Val wA (.agg (encT y).toArray)) ∧ Hid (Ext wA wr)) (fun _ i _ => lq - (intOf i).toNat)
  case atStart => exact ⟨0, [(t, .slice p len cap)], Nat.zero_le _, rfl, HO.out, rfl, fun y hy => by
      rw [List.mem_singleton] at hy
      subst hy
      exact HVT.out _ (Ext.refl _), HXB.out⟩
  case round =>
    obtain ⟨wo, rfl⟩ : ∃ wo : World, wo = wr := ⟨_, rfl⟩
    obtain ⟨j, l, hj, rfl, hown, hml, hvl, hx⟩ := hrel
    have hll : l.length = (qs.take j).length + 1 := by have := congrArg List.length hml.out; simpa using this
    have hl34 : l.length ≤ 34 := by have := HL.out; simp at hll; omega
    have HBL := Lib.hid (fun i (hi : u3.ownBlock = some i) => (hown.lt i hi).1)
    by_cases hlt : j < lq
    · have hjl : j < qs.length := by rw [← HL.out]; exact hlt
      rcases HQ.out with hq | ⟨b, o, rfl, hq⟩
      · exfalso; subst hq; simp at hjl
      obtain ⟨p2, l2, k2, d0, d1, d2, d3, d4, hvq⟩ := qs_cells (QsAt_get (hq wA (Ext.refl _)) j hjl)
      have d0 := hx.out.later _ _ d0
      have d1 := hx.out.later _ _ d1
      have d2 := hx.out.later _ _ d2
      have d3 := hx.out.later _ _ d3
      have d4 := hx.out.later _ _ d4
      have HTk := Lib.hid (show (l ++ [((qs[j]).2, Value.slice p2 l2 k2)]).map (·.1) = t :: (qs.take (j + 1)).map (·.2) from by
        rw [List.take_succ_eq_append_getElem hjl, List.map_append, List.map_append, hml.out]; rfl)
      generalize qs[j] = q at *
      obtain ⟨⟨qn, hqn⟩, q⟩ := q
      simp only at d0 d1 d2 d3 d4 hvq HTk
      have hxs := Ext.alloc wo (.cells #[.string qn, .int .i8 q.op, .int .i8 q.fld, .int .u64 q.n, .slice p2 l2 k2] 79)
      have hxt := Ext.alloc (wo.alloc (.cells #[.string qn, .int .i8 q.op, .int .i8 q.fld, .int .u64 q.n, .slice p2 l2 k2] 79)) (.cells #[.int .i8 q.op, .int .i8 q.fld, .int .u64 q.n, .slice p2 l2 k2] 31)
      have HO2 := Lib.hid ((hown.alloc (.cells #[.string qn, .int .i8 q.op, .int .i8 q.fld, .int .u64 q.n, .slice p2 l2 k2] 79)).alloc (.cells #[.int .i8 q.op, .int .i8 q.fld, .int .u64 q.n, .slice p2 l2 k2] 31))
      have hr2 := rangeAt_new (wo.alloc (.cells #[.string qn, .int .i8 q.op, .int .i8 q.fld, .int .u64 q.n, .slice p2 l2 k2] 79)) #[.int .i8 q.op, .int .i8 q.fld, .int .u64 q.n, .slice p2 l2 k2] 31
      rw [World.size_alloc] at hr2
      have HR2 := Lib.hid hr2
      have HONE := Lib.hid (encT_one (p := (q, Value.slice p2 l2 k2)) hvq)
      have HXT := Lib.hid (hxs.trans hxt)
      have HVQ := Lib.hid hvq
      have hszo : wA.heap.size ≤ wo.heap.size := hx.out.size
      clear hown hvq hxs hxt hq hml hr2
      go_wp2_with (first
        | (refine wpList_store_new rfl 79 _ _ rfl _ #[.string qn, .int .i8 q.op, .int .i8 q.fld, .int .u64 q.n, .slice p2 l2 k2] rfl rfl (by kernel_rfl) rfl (by rfl) ?_)
        | (at_builtin; refine wpList_append_T rfl _ _ rfl (w.heap.size + 1) u3 l rfl HO2.out _ (q, Value.slice p2 l2 k2) rfl HR2.out HONE.out (by omega) (by simp; omega) ?_; intro v4 w4 hown4 hg4))
      go_roundw
      case rel => exact ⟨j + 1, l ++ [(q, Value.slice p2 l2 k2)], by omega, by go_num, hown4, HTk.out, fun y hy => by
        rcases List.mem_append.1 hy with hy | hy
        · exact hvl.out y hy
        · rw [List.mem_singleton] at hy
          subst hy
          exact HVQ.out, (hx.out.trans HXT.out).grow' hg4 (fun i hi => by have := HBL.out i hi; omega)⟩
      case measure => simp [intOf]; omega
    · have HT := Lib.hid (show Tms wo (t :: qs.map (·.2)) u3 from by
        have := tms_of_owns hown (fun y hy => (hvl.out y hy).later hx.out.later)
        rwa [hml.out, List.take_of_length_le (by have := HL.out; omega)] at this)
      clear hown hml hvl hll hl34
      obtain ⟨b0, b1, b2, b3, b4⟩ := HC5.out _ hx.out
      go_wp2_with fail
      refine (big_any _ _ _ HT.out).mono ?_
      rintro e w5 ⟨rfl, hx5⟩
      have HX5 := Lib.hid (hx.out.trans hx5)
      clear b0 b1 b2 b3 b4
      by_cases hbig : bigB (t :: qs.map (·.2)) = true
      · have HF := Lib.hid (show checkP t qs = 200 from by rw [HP.out, if_pos hbig])
        rw [hbig]
        clear hbig
        go_wp2_with fail
        go_ret
        exact ⟨by rw [HF.out]; rfl, HX.out.trans HX5.out⟩
      have HP2 := Lib.hid (show checkP t qs = if t.right false then (if qsB [] qs then 0 else 170) else 170 from by rw [HP.out, if_neg hbig])
      rw [show bigB (t :: qs.map (·.2)) = false from by simpa using hbig]
      clear hbig HP
      have HR := Lib.hid (right_any t false w.heap.size 0 w5 ((HVT.out _ HX5.out).at (rangeAt_take (n := 4) (HRA.out _ HX5.out))))
      go_wp2_with fail
      refine HR.out.mono ?_
      rintro e w6 ⟨rfl, hx6⟩
      have HX6 := Lib.hid (HX5.out.trans hx6)
      by_cases hr : t.right false = true
      · have HP3 := Lib.hid (show checkP t qs = if qsB [] qs then 0 else 170 from by rw [HP2.out, if_pos hr])
        rw [hr]
        clear hr HP2 HR
        obtain ⟨b0, b1, b2, b3, b4⟩ := HC5.out _ (HX6.out.andAlloc (.map #[] 0))
        have hmm := @run_makeMap Try.prog
        have HM0 := Lib.hid (show MapOf (w6.alloc (.map #[] 0)) kvS vvI w6.heap.size (([] : List Str).map fun n => (n, 1)) from MapRaw.made w6)
        have HXM := Lib.hid (HX6.out.andAlloc (.map #[] 0))
        have hs6 : wA.heap.size ≤ w6.heap.size := HX6.out.size
        go_wp2_with fail
        clear b0 b1 b2 b3 b4
        go_loopw [38] (fun i wr => ∃ (j : Nat) (seen : List Str), j ≤ lq ∧ i = .int .i64 j ∧ Hid (MapOf wr kvS vvI w6.heap.size (seen.map fun n => (n, 1))) ∧ Hid seen.Nodup ∧ Hid (qsB seen (qs.drop j) = qsB [] qs) ∧ Hid (Ext wA wr) ∧ w6.heap.size < wr.heap.size) (fun i _ => lq - (intOf i).toNat)
        case atStart => exact ⟨0, [], Nat.zero_le _, rfl, HM0.out, List.nodup_nil, rfl, HXM.out, by simp⟩
        case round =>
          obtain ⟨wo2, rfl⟩ : ∃ wo2 : World, wo2 = wr := ⟨_, rfl⟩
          obtain ⟨j, seen, hj, rfl, hm, hnd, hB, hx2, hlt6⟩ := hrel
          by_cases hlt2 : j < lq
          · have hjl : j < qs.length := by rw [← HL.out]; exact hlt2
            rcases HQ.out with hq | ⟨b, o, rfl, hq⟩
            · exfalso; subst hq; simp at hjl
            obtain ⟨p2, l2, k2, d0, d1, d2, d3, d4, hvq⟩ := qs_cells (QsAt_get (hq wA (Ext.refl _)) j hjl)
            have d0 := hx2.out.later _ _ d0
            have d1 := hx2.out.later _ _ d1
            have d2 := hx2.out.later _ _ d2
            have d3 := hx2.out.later _ _ d3
            have d4 := hx2.out.later _ _ d4
            have hB2 := hB.out
            rw [drop_get hjl, qsB] at hB2
            generalize qs[j] = q at *
            obtain ⟨⟨qn, hqn⟩, q⟩ := q
            simp only at d0 d1 d2 d3 d4 hvq hB2
            obtain ⟨wS, hS⟩ : ∃ W : World, wo2.alloc (.cells #[.string qn, .int .i8 q.op, .int .i8 q.fld, .int .u64 q.n, .slice p2 l2 k2] 79) = W := ⟨_, rfl⟩
            have xS : Ext wo2 wS := hS ▸ Ext.alloc _ _
            have rS : wS.rangeAt wo2.heap.size 0 [.string qn, .int .i8 q.op, .int .i8 q.fld, .int .u64 q.n, .slice p2 l2 k2] := by
              have := rangeAt_new wo2 #[.string qn, .int .i8 q.op, .int .i8 q.fld, .int .u64 q.n, .slice p2 l2 k2] 79
              rw [hS] at this
              exact this
            have hmS : MapOf wS kvS vvI w6.heap.size (seen.map fun n => (n, 1)) := MapRaw.ext hm.out xS
            have hlk := run_lookup_of codedS Try.underlying82 hmS (keys_one hnd.out) ⟨qn, hqn⟩ _ (zeroI wS) false
            obtain ⟨wU, hup, hmU, hgU⟩ := run_update_of codedS Try.underlying82 hmS (keys_one hnd.out) ⟨qn, hqn⟩ (if seen.any (fun s => decide (s = ⟨qn, hqn⟩)) then 2 else 1)
            rw [look_one] at hlk
            have xU : Ext wA wU := (hx2.out.trans xS).trans' ⟨hgU.os, hgU.tape, hgU.output, hgU.size, fun i hi => hgU.block i (by have := hx2.out.size; have := xS.size; omega) (fun e => by injection e with e; omega)⟩
            have hsS : wS.heap.size = wo2.heap.size + 1 := by rw [← hS, World.size_alloc]
            have hneb : ¬ wo2.heap.size = w6.heap.size := by omega
            have rU : ∀ W, Ext wU W → W.rangeAt wo2.heap.size 0 [.string qn, .int .i8 q.op, .int .i8 q.fld, .int .u64 q.n, .slice p2 l2 k2] := fun W hW => World.rangeAt.later hW.later ((Keep.grown hgU).range rS hneb)
            have hndU := store_keys (x := (⟨qn, hqn⟩ : Str)) (a := if seen.any (fun s => decide (s = ⟨qn, hqn⟩)) then 2 else 1) (keys_one hnd.out)
            have hlkU := fun W (hW : Ext wU W) => run_lookup_of codedS Try.underlying82 (MapRaw.ext hmU hW : MapOf W kvS vvI w6.heap.size _) hndU ⟨qn, hqn⟩ _ (zeroI W) false
            have hlS : ∀ (l : List (Str × Nat)) (x : Str) (a : Nat), look x (store x a l) = some a := fun l x a => by
              induction l with
              | nil => simp [store, look]
              | cons p r ih =>
                simp only [store]
                split
                · simp [look]
                · rename_i hne; simp only [look, if_neg hne]; exact ih
            have HRU := Lib.hid rU
            have HLKU := Lib.hid (fun W hW => (hlkU W hW).trans (by rw [hlS]))
            have HXU := Lib.hid xU
            have HEQ := Lib.hid hS
            have HNM := Lib.hid (name_any qn wU)
            have HRQ := Lib.hid (fun W (hW : Ext wU W) => right_any q true wo2.heap.size 1 W ((hvq.later (HXU.out.trans hW).later).at (by
              intro jj vv hv
              have := rU W hW (1 + jj) vv (by rw [Nat.add_comm]; exact hv)
              simpa [Nat.zero_add] using this)))
            have hsU : wS.heap.size ≤ wU.heap.size := hgU.size
            have r0 := rU _ (Ext.refl _) 0 _ rfl
            rw [Nat.add_zero] at r0
            have s0 := rS 0 _ rfl
            rw [Nat.add_zero] at s0
            clear rU hlkU hlS xU hndU rS hq hS
            cases hin : seen.any (fun s => decide (s = (⟨qn, hqn⟩ : Str))) with
            | true =>
              have HT := Lib.hid (show qsB [] qs = false from by rw [← hB2, hin]; simp)
              have HF := Lib.hid (show checkP t qs = 170 from by rw [HP3.out, HT.out]; rfl)
              rw [hin] at hlk hup HLKU
              have hup' : (Instr.mapUpdate 82 (.map (some w6.heap.size)) (.string qn) (.int .i64 2)).run Try.prog wS = .ok () wU := hup
              have hlk' : (Instr.lookup 82 (.map (some w6.heap.size)) (.string qn) false).run Try.prog wS = .ok (.int .i64 1) wS := hlk
              have HLK2 := Lib.hid (fun W hW => show (Instr.lookup 82 (.map (some w6.heap.size)) (.string qn) false).run Try.prog W = .ok (.int .i64 2) W from HLKU.out W hW)
              clear hB2 hmU hmS hlk hup HLKU hvq hin hB
              go_upto_region 17 with (first
                | (refine wpList_store_new rfl 79 _ _ rfl _ #[.string qn, .int .i8 q.op, .int .i8 q.fld, .int .u64 q.n, .slice p2 l2 k2] rfl rfl (by kernel_rfl) rfl (by rfl) ?_))
              rw [HEQ.out]
              go_upto_region 18 with fail
              go_wp2_with fail
              refine HNM.out.mono ?_
              rintro e w7 ⟨rfl, hx7⟩
              have hl7 := HLK2.out w7 hx7
              have hr7 := HRU.out w7 hx7
              have r7 := hr7 0 _ rfl
              rw [Nat.add_zero] at r7
              have HX7 := Lib.hid (HXU.out.trans hx7)
              clear hr7 r0 s0 d0 d1 d2 d3 d4
              cases nameB qn with
              | false =>
                go_wp2_with fail
                go_ret
                exact ⟨by rw [HF.out]; rfl, HX.out.trans HX7.out⟩
              | true =>
                go_wp2_with fail
                go_ret
                exact ⟨by rw [HF.out]; rfl, HX.out.trans HX7.out⟩
            | false =>
              rw [hin] at hlk hup HLKU hmU hB2
              have hup' : (Instr.mapUpdate 82 (.map (some w6.heap.size)) (.string qn) (.int .i64 1)).run Try.prog wS = .ok () wU := hup
              have hlk' : (Instr.lookup 82 (.map (some w6.heap.size)) (.string qn) false).run Try.prog wS = .ok (.int .i64 0) wS := hlk
              have HLK2 := Lib.hid (fun W hW => show (Instr.lookup 82 (.map (some w6.heap.size)) (.string qn) false).run Try.prog W = .ok (.int .i64 1) W from HLKU.out W hW)
              have HNI := Lib.hid (not_anyS hin)
              have HMU := Lib.hid (show MapOf wU kvS vvI w6.heap.size ((seen ++ [(⟨qn, hqn⟩ : Str)]).map fun n => (n, 1)) from by
                have h1 : MapOf wU kvS vvI w6.heap.size (store (⟨qn, hqn⟩ : Str) 1 (seen.map fun n => (n, 1))) := hmU
                rw [store_new (fun p hp => by
                  obtain ⟨n, hn, rfl⟩ := List.mem_map.1 hp
                  exact fun e => HNI.out (e ▸ hn))] at h1
                rw [List.map_append]
                exact h1)
              have HB2 := Lib.hid (show (nameB qn && (q.right true && qsB (seen ++ [(⟨qn, hqn⟩ : Str)]) (qs.drop (j + 1)))) = qsB [] qs from by rw [← hB2]; simp)
              clear hB2 hmU hmS hlk hup HLKU hvq hin hB
              go_upto_region 17 with (first
                | (refine wpList_store_new rfl 79 _ _ rfl _ #[.string qn, .int .i8 q.op, .int .i8 q.fld, .int .u64 q.n, .slice p2 l2 k2] rfl rfl (by kernel_rfl) rfl (by rfl) ?_))
              rw [HEQ.out]
              go_upto_region 18 with fail
              go_wp2_with fail
              refine HNM.out.mono ?_
              rintro e w7 ⟨rfl, hx7⟩
              have hl7 := HLK2.out w7 hx7
              have hr7 := HRU.out w7 hx7
              have r7 := hr7 0 _ rfl
              rw [Nat.add_zero] at r7
              have HX7 := Lib.hid (HXU.out.trans hx7)
              clear hr7 r0 s0 d0 d1 d2 d3 d4
              cases hnb : nameB qn with
              | false =>
                have HF := Lib.hid (show checkP t qs = 170 from by rw [HP3.out, ← HB2.out, hnb]; rfl)
                clear hnb
                go_wp2_with fail
                go_ret
                exact ⟨by rw [HF.out]; rfl, HX.out.trans HX7.out⟩
              | true =>
                have HB3 := Lib.hid (show (q.right true && qsB (seen ++ [(⟨qn, hqn⟩ : Str)]) (qs.drop (j + 1))) = qsB [] qs from by rw [← HB2.out, hnb]; rfl)
                have HRq := Lib.hid (HRQ.out w7 hx7)
                clear hnb
                go_wp2_with fail
                refine HRq.out.mono ?_
                rintro e w8 ⟨rfl, hx8⟩
                have HX8 := Lib.hid (HX7.out.trans hx8)
                have HXX := Lib.hid (hx7.trans hx8)
                clear hl7 r7
                cases hrq : q.right true with
                | false =>
                  have HF := Lib.hid (show checkP t qs = 170 from by rw [HP3.out, ← HB3.out, hrq]; rfl)
                  clear hrq
                  go_wp2_with fail
                  go_ret
                  exact ⟨by rw [HF.out]; rfl, HX.out.trans HX8.out⟩
                | true =>
                  have HB4 := Lib.hid (show qsB (seen ++ [(⟨qn, hqn⟩ : Str)]) (qs.drop (j + 1)) = qsB [] qs from by rw [← HB3.out, hrq]; rfl)
                  have hs8 : wU.heap.size ≤ w8.heap.size := HXX.out.size
                  clear hrq
                  go_wp2_with fail
                  go_roundw
                  case rel => exact ⟨j + 1, seen ++ [(⟨qn, hqn⟩ : Str)], by omega, by go_num, MapRaw.ext HMU.out HXX.out, List.nodup_append.2 ⟨hnd.out, by simp, fun a ha b hb e => HNI.out (by rw [List.mem_singleton] at hb; rw [← hb, ← e]; exact ha)⟩, HB4.out, HX8.out, by omega⟩
                  case measure => simp [intOf]; omega
          · have HT := Lib.hid (show qsB [] qs = true from by
              rw [← hB.out, List.drop_of_length_le (by have := HL.out; omega), qsB])
            have HF := Lib.hid (show checkP t qs = 0 from by rw [HP3.out, HT.out]; rfl)
            clear hB hm
            go_wp2_with fail
            go_ret
            exact ⟨by rw [HF.out]; rfl, HX.out.trans hx2.out⟩
      · have HF := Lib.hid (show checkP t qs = 170 from by rw [HP2.out, if_neg hr])
        rw [show t.right false = false from by simpa using hr]
        clear hr
        go_wp2_with fail
        go_ret
        exact ⟨by rw [HF.out]; rfl, HX.out.trans HX6.out⟩
end Go.Proofs.Ytddeelepaiklgaa
/- m[k]-- and m[k]++: the entry found or made, the store into it. -/
namespace Go.Proofs.Ytddeelepaiklgaa
open Go.RowKit Go.Maps Go.ChangeMaps
set_option linter.unusedSimpArgs false

section
variable {P : Program} {k : TypeId} {κ α : Type} [DecidableEq κ] {kv : κ → Value} {vv : α → Value}

theorem look_store (x : κ) (a : α) : ∀ (l : List (κ × α)), look x (store x a l) = some a
  | [] => by simp [store, look]
  | p :: r => by
    simp only [store]
    split
    · simp [look]
    · rename_i hne; simp only [look, if_neg hne]; exact look_store x a r
theorem look_other {x y : κ} (a : α) (h : y ≠ x) : ∀ (l : List (κ × α)), look y (store x a l) = look y l
  | [] => by simp [store, look, Ne.symm h]
  | p :: r => by
    simp only [store]
    split
    · rename_i he; simp [look, he, Ne.symm h]
    · simp only [look, look_other a h r]

theorem MapRaw.setB {w : World} {b : Nat} {es : Array MapEntry} {c : Nat} {m : List (Value × Value)} (h : MapRaw (setBlock w b (.map es c)) b m) (hb : b < w.heap.size) (w2 : World) (hb2 : b < w2.heap.size) : MapRaw (setBlock w2 b (.map es c)) b m := by
  refine MapRaw.kept h ?_
  simp [setBlock, hb, hb2]

theorem grown_setB (w : World) (b : Nat) (o : Obj) : w.grownBy (setBlock w b o) (some b) := ⟨rfl, rfl, rfl, by simp [setBlock], fun i _ hne => by
  have : b ≠ i := fun e => hne (by rw [e])
  simp [setBlock, this]⟩
theorem grown_trans {a b c : World} {o : Option Nat} (h : a.grownBy b o) (g : b.grownBy c o) : a.grownBy c o :=
  ⟨g.os.trans h.os, g.tape.trans h.tape, g.output.trans h.output, Nat.le_trans h.size g.size, fun i hi hn => (g.block i (Nat.lt_of_lt_of_le hi h.size) hn).trans (h.block i hi hn)⟩

/-- m[k] for a change: the entry is made where there is none; then the store -/
theorem run_entry_of (K : Coded P k kv) {t e : TypeId} (ht : P.underlying t = some (.map k e)) {w : World} {b : Nat} {l : List (κ × α)} (hm : MapOf w kv vv b l) (hn : (l.map (·.1)).Nodup) (x : κ) (z : α) (hz : ∀ u : World, (zeroValue e).run P u = .ok (vv z) u) :
    ∃ (st : Nat) (w1 : World), (Instr.mapEntry t (.map (some b)) (kv x)).run P w = .ok (.tuple #[vv ((look x l).getD z), .int .i64 st]) w1 ∧
      (∃ l1, MapOf w1 kv vv b l1 ∧ (l1.map (·.1)).Nodup ∧ (look x l1).getD z = (look x l).getD z) ∧ w.grownBy w1 (some b) ∧
      ∀ a : α, ∃ w2, (Instr.entryStore t (.map (some b)) (.int .i64 st) (vv a)).run P w1 = .ok () w2 ∧ MapOf w2 kv vv b (store x a l) ∧ w.grownBy w2 (some b) := by
  have hm' := hm
  obtain ⟨es, clock, hb, hes, hborn, hnd⟩ := hm
  obtain ⟨lx, hlx⟩ := K.key x
  have hck := K.keyed.check w false hlx
  have hbl : b < w.heap.size := (Array.getElem?_eq_some_iff.1 hb).1
  have hat : ∀ (w : World) (o : Obj), b < w.heap.size → (setBlock w b o).heap[b]? = some o := fun w o hbl => by simp [setBlock, hbl]
  have hsz : ∀ (w : World) (o : Obj), b < w.heap.size → b < (setBlock w b o).heap.size := fun w o hbl => by simpa [setBlock] using hbl
  rcases K.find hes x w with ⟨h1, h2⟩ | ⟨j, a', h1, h2, e', he1, he2⟩
  · have hlk : (look x l).getD z = z := by rw [look_none h2]; rfl
    rw [hlk]
    refine ⟨clock, setBlock w b (.map (es.push ⟨kv x, vv z, clock⟩) (clock + 1)), ?_, ⟨l ++ [(x, z)], ?_, ?_, ?_⟩, grown_setB _ _ _, fun a => ⟨setBlock (setBlock w b (.map (es.push ⟨kv x, vv z, clock⟩) (clock + 1))) b (.map (es.push ⟨kv x, vv a, clock⟩) (clock + 1)), ?_, ?_, grown_trans (grown_setB _ _ _) (grown_setB _ _ _)⟩⟩
    · simp [Instr.mapEntry, run_underlying ht, MapKept.run_getObj_map hb, hck, h1, hz, MapKept.run_setObj_map _ hb, Result.andThen, setBlock, goInt]
    · obtain ⟨w', hu, hmu, hg⟩ := run_update_of K ht hm' hn x z
      have hu2 : (Instr.mapUpdate t (.map (some b)) (kv x) (vv z)).run P w = .ok () (setBlock w b (.map (es.push ⟨kv x, vv z, clock⟩) (clock + 1))) := by
        simp [Instr.mapUpdate, run_underlying ht, MapKept.run_getObj_map hb, hck, h1, MapKept.run_setObj_map _ hb, Result.andThen, setBlock]
      rw [hu2] at hu
      cases hu
      rw [store_new h2] at hmu
      exact hmu
    · rw [List.map_append]
      refine List.nodup_append.2 ⟨hn, by simp, fun y hy c hc e => ?_⟩
      simp at hc
      obtain ⟨p, hp, rfl⟩ := List.mem_map.1 hy
      exact h2 p hp (e.trans hc)
    · have := look_store x z l
      rw [store_new h2] at this
      rw [this]; rfl
    · have hw1 : (setBlock w b (.map (es.push ⟨kv x, vv z, clock⟩) (clock + 1))).heap[b]? = some (.map (es.push ⟨kv x, vv z, clock⟩) (clock + 1)) := hat _ _ hbl
      have hidx : (es.push ⟨kv x, vv z, clock⟩).findIdx? (fun e => ((e.born : Nat) : Int) == ((clock : Nat) : Int)) = some es.size := by
        rw [WideElems.findIdx_arr]
        have := WideElems.findIdx_born (l := (es.push ⟨kv x, vv z, clock⟩).toList) (j := es.size) (e0 := ⟨kv x, vv z, clock⟩) (by
          simp only [Array.toList_push, List.map_append, List.map_cons, List.map_nil]
          refine List.nodup_append.2 ⟨hnd, by simp, fun a ha c hc e1 => ?_⟩
          simp only [List.mem_singleton] at hc
          obtain ⟨y, hy, rfl⟩ := List.mem_map.1 ha
          have := hborn y hy
          omega) (by simp)
        exact this
      have hmod : (es.push ⟨kv x, vv z, clock⟩).modify es.size (fun e => { e with val := vv a }) = es.push ⟨kv x, vv a, clock⟩ := by
        apply Array.ext'
        rw [Array.toList_modify, Array.toList_push, Array.toList_push, ← Array.length_toList, WideElems.modify_last]
      generalize hWW : setBlock w b (.map (es.push ⟨kv x, vv z, clock⟩) (clock + 1)) = WW at *
      simp [Instr.entryStore, MapKept.run_getObj_map hw1, asInt, asIntOf, hidx, hmod, MapKept.run_setObj_map _ hw1, Result.andThen, setBlock]
    · obtain ⟨w', hu, hmu, hg⟩ := run_update_of K ht hm' hn x a
      have hu2 : (Instr.mapUpdate t (.map (some b)) (kv x) (vv a)).run P w = .ok () (setBlock w b (.map (es.push ⟨kv x, vv a, clock⟩) (clock + 1))) := by
        simp [Instr.mapUpdate, run_underlying ht, MapKept.run_getObj_map hb, hck, h1, MapKept.run_setObj_map _ hb, Result.andThen, setBlock]
      rw [hu2] at hu
      cases hu
      exact MapRaw.setB hmu hbl _ (hsz _ _ hbl)
  · have hlk : look x l = some a' := look_at j hn h2
    have hval : e'.val = vv a' := by
      have h3 : (es.toList.map (fun e => (e.key, e.val)))[j]? = some (e'.key, e'.val) := by rw [List.getElem?_map, he1]; rfl
      rw [hes, List.getElem?_map, h2] at h3
      simp at h3
      exact h3.2.symm
    have hj : es[j]? = some e' := by simpa using he1
    have hst : (Instr.keyThatStays (kv x) (kv x)).run P w = .ok (kv x) w := K.keyed.stays w hlx
    have hsame : es.modify j (fun e => { e with key := kv x }) = es := by
      apply Array.ext'
      rw [Array.toList_modify, ChangeMaps.modify_eq_set _ _ _ _ he1]
      have : ({ e' with key := kv x } : MapEntry) = e' := by rw [← he2]
      rw [this]
      exact WideElems.set_self _ _ _ he1
    rw [hlk]
    refine ⟨e'.born, setBlock w b (.map es clock), ?_, ⟨l, ⟨es, clock, hat _ _ hbl, hes, hborn, hnd⟩, hn, by rw [hlk]⟩, grown_setB _ _ _, fun a => ⟨setBlock (setBlock w b (.map es clock)) b (.map (es.modify j (fun e' => { e' with key := kv x, val := vv a })) clock), ?_, ?_, grown_trans (grown_setB _ _ _) (grown_setB _ _ _)⟩⟩
    · simp [Instr.mapEntry, run_underlying ht, MapKept.run_getObj_map hb, hck, h1, hj, he2, hst, hsame, MapKept.run_setObj_map _ hb, Result.andThen, setBlock, goInt]
    · have hw1 : (setBlock w b (.map es clock)).heap[b]? = some (.map es clock) := hat _ _ hbl
      have hidx : es.findIdx? (fun e => ((e.born : Nat) : Int) == ((e'.born : Nat) : Int)) = some j := by
        rw [WideElems.findIdx_arr]
        exact WideElems.findIdx_born hnd he1
      have hmod : es.modify j (fun e => { e with val := vv a }) = es.modify j (fun e' => { e' with key := kv x, val := vv a }) := by
        apply Array.ext'
        rw [Array.toList_modify, Array.toList_modify, ChangeMaps.modify_eq_set _ _ _ _ he1, ChangeMaps.modify_eq_set _ _ _ _ he1, ← he2]
      generalize hWW : setBlock w b (.map es clock) = WW at *
      simp [Instr.entryStore, MapKept.run_getObj_map hw1, asInt, asIntOf, hidx, hmod, MapKept.run_setObj_map _ hw1, Result.andThen, setBlock]
    · obtain ⟨w', hu, hmu, hg⟩ := run_update_of K ht hm' hn x a
      have hu2 : (Instr.mapUpdate t (.map (some b)) (kv x) (vv a)).run P w = .ok () (setBlock w b (.map (es.modify j (fun e' => { e' with key := kv x, val := vv a })) clock)) := by
        simp [Instr.mapUpdate, run_underlying ht, MapKept.run_getObj_map hb, hck, h1, hj, he2, hst, MapKept.run_setObj_map _ hb, Result.andThen, setBlock]
      rw [hu2] at hu
      cases hu
      exact MapRaw.setB hmu hbl _ (hsz _ _ hbl)
end
end Go.Proofs.Ytddeelepaiklgaa
/- judge.Hop. -/
namespace Go.Proofs.Ytddeelepaiklgaa
open Go.RowKit Go.Maps
set_option linter.unusedSimpArgs false

def hopL (l : List Hdr) : List Hdr → List Hdr → Bool
  | _, [] => true
  | done, x :: xs => decide (x ∈ l) && (!decide (x ∈ done) && hopL l (done ++ [x]) xs)
def hopP (t : Tm) (qs : List Qr) (x : Hdr) (out : List Hdr) : Bool :=
  decide (checkP t qs = 0) && (decide (x.f 3 = 0) && (decide ((ofC t x).1 = 0) && hopL (ofC t x).2 [] out))
/-- a hop's cells -/
def hopCs (step pol : Int) (x : Hdr) (ov : Value) : List Value := [.int .i64 step, .int .i64 pol] ++ (x.cs.toList ++ [ov])
def HopVal (w : World) (step pol : Int) (x : Hdr) (out : List Hdr) (v : Value) : Prop :=
  ∃ ov, v = .agg (hopCs step pol x ov).toArray ∧ HSl w 0 out ov ∧ out.length ≤ 9223372036854775807
theorem hop_cells {w : World} {b o : Nat} {step pol : Int} {x : Hdr} {ov : Value} (h : w.rangeAt b o (hopCs step pol x ov)) :
    w.cell? ⟨b, o, none⟩ = some (.int .i64 step) ∧ w.cell? ⟨b, o + 1, none⟩ = some (.int .i64 pol) ∧ w.rangeAt b (o + 2) x.cs.toList ∧ w.cell? ⟨b, o + 13, none⟩ = some ov := by
  refine ⟨by simpa using h 0 _ rfl, by simpa using h 1 _ rfl, fun j v hv => ?_, ?_⟩
  · have hj : j < x.cs.toList.length := (List.getElem?_eq_some_iff.1 hv).1
    have := h (2 + j) v (by
      unfold hopCs
      rw [List.getElem?_append_right (by simp), show 2 + j - [Value.int .i64 step, Value.int .i64 pol].length = j from by simp]
      rw [List.getElem?_append_left hj]; exact hv)
    rwa [show o + 2 + j = o + (2 + j) from by omega]
  · refine h 13 ov ?_
    unfold hopCs
    rw [List.getElem?_append_right (by simp), List.getElem?_append_right (by rw [x.len_cs]; simp), x.len_cs]
    rfl
def vvZ (n : Int) : Value := .int .i64 n
/-- the map of what is left -/
def LeftIs (w : World) (b : Nat) (l done : List Hdr) : Prop :=
  ∃ L : List (Hdr × Int), MapOf w kvH vvZ b L ∧ (L.map (·.1)).Nodup ∧ ∀ y, look y L = if y ∈ done then some 0 else if y ∈ l then some 1 else none
theorem LeftIs.ext {w w' : World} {b : Nat} {l done : List Hdr} (h : LeftIs w b l done) (hx : Ext w w') : LeftIs w' b l done := by
  obtain ⟨L, h1, h2⟩ := h
  exact ⟨L, MapRaw.ext h1 hx, h2⟩
theorem LeftIs.lt {w : World} {b : Nat} {l done : List Hdr} (h : LeftIs w b l done) : b < w.heap.size := by
  obtain ⟨L, h1, -⟩ := h
  exact MapRaw.lt h1
theorem LeftIs.made (w : World) : LeftIs (w.alloc (.map #[] 0)) w.heap.size [] [] := ⟨[], MapRaw.made w, by simp, fun y => by simp [look]⟩
theorem LeftIs.fill {w : World} {b : Nat} {l : List Hdr} (h : LeftIs w b l []) (x : Hdr) :
    ∃ w', (Instr.mapUpdate 61 (.map (some b)) (.agg x.cs) (.int .i64 1)).run Try.prog w = .ok () w' ∧ LeftIs w' b (l ++ [x]) [] ∧ w.grownBy w' (some b) := by
  obtain ⟨L, h1, h2, h3⟩ := h
  obtain ⟨w', hu, hm, hg⟩ := run_update_of codedH Try.underlying61 h1 h2 x (1 : Int)
  refine ⟨w', hu, ⟨_, hm, store_keys h2, fun y => ?_⟩, hg⟩
  by_cases hy : y = x
  · subst hy
    rw [look_store]; simp
  · rw [look_other _ hy, h3 y]
    simp [hy]
theorem LeftIs.take {w : World} {b : Nat} {l done : List Hdr} (h : LeftIs w b l done) (x : Hdr) (n m : Int) (hn : n = if x ∈ done then 0 else if x ∈ l then 1 else 0) (hmn : m = n - 1) :
    ∃ (st : Nat) (w1 w2 : World), (Instr.lookup 61 (.map (some b)) (.agg x.cs) false).run Try.prog w = .ok (.int .i64 n) w ∧
      (Instr.mapEntry 61 (.map (some b)) (.agg x.cs)).run Try.prog w = .ok (.tuple #[.int .i64 n, .int .i64 st]) w1 ∧
      (Instr.lookup 61 (.map (some b)) (.agg x.cs) false).run Try.prog w1 = .ok (.int .i64 n) w1 ∧
      (Instr.entryStore 61 (.map (some b)) (.int .i64 st) (.int .i64 m)).run Try.prog w1 = .ok () w2 ∧
      w.grownBy w1 (some b) ∧ w.grownBy w2 (some b) ∧ (n = 1 → LeftIs w2 b l (done ++ [x])) ∧
      ∀ W, Ext w2 W → (Instr.lookup 61 (.map (some b)) (.agg x.cs) false).run Try.prog W = .ok (.int .i64 m) W := by
  subst hmn
  obtain ⟨L, h1, h2, h3⟩ := h
  have hl : (look x L).getD 0 = n := by
    rw [h3 x, hn]
    split
    · rfl
    · split <;> rfl
  obtain ⟨st, w1, he, ⟨L1, hm1, hn1, hl1⟩, hg1, hs⟩ := run_entry_of codedH Try.underlying61 h1 h2 x (0 : Int) zeroI
  obtain ⟨w2, he2, hm2, hg2⟩ := hs (n - 1)
  have q : ∀ {W : World} {M : List (Hdr × Int)}, MapOf W kvH vvZ b M → (M.map (·.1)).Nodup → (Instr.lookup 61 (.map (some b)) (.agg x.cs) false).run Try.prog W = .ok (.int .i64 ((look x M).getD 0)) W := fun {W M} hM hN => by
    have := run_lookup_of codedH Try.underlying61 hM hN x _ (zeroI W) false
    cases hq : look x M <;> (rw [hq] at this; exact this)
  refine ⟨st, w1, w2, ?_, ?_, ?_, he2, hg1, hg2, fun h1n => ⟨_, hm2, store_keys h2, fun y => ?_⟩, fun W hW => ?_⟩
  · rw [q h1 h2, hl]
  · rw [hl] at he; exact he
  · rw [q hm1 hn1, hl1, hl]
  · by_cases hy : y = x
    · subst hy
      rw [look_store, h1n]; simp
    · rw [look_other _ hy, h3 y]
      simp [hy]
  · rw [q (MapRaw.ext hm2 hW : MapOf W kvH vvZ b _) (store_keys h2), look_store]; rfl

set_option maxHeartbeats 4000000 in
set_option maxRecDepth 100000 in
theorem hop_any (t : Tm) (qs : List Qr) (step pol : Int) (x : Hdr) (out : List Hdr) (hv pv : Value) (w : World) (hh : HopVal w step pol x out hv) (hp : PVal w t qs pv) :
    Calls Try.prog 10 #[hv, pv] w fun e w' => e = .returned (.bool (hopP t qs x out)) ∧ Ext w w' := by
  have HPV := Lib.hid hp
  obtain ⟨ov, rfl, ⟨po, lo, co, rfl, hlo, hout⟩, hmax⟩ := hh
  have HLO := Lib.hid hlo
  have hlm : lo ≤ 9223372036854775807 := by omega
  obtain ⟨p, len, cap, qv, rfl, -⟩ := hp
  obtain ⟨wA, hA⟩ : ∃ W : World, w.alloc (.cells (hopCs step pol x (.slice po lo co)).toArray 27) = W := ⟨_, rfl⟩
  have xA : Ext w wA := hA ▸ Ext.alloc _ _
  have sA : wA.heap.size = w.heap.size + 1 := by rw [← hA, World.size_alloc]
  have rA : wA.rangeAt w.heap.size 0 (hopCs step pol x (.slice po lo co)) := by
    have := rangeAt_new w (hopCs step pol x (.slice po lo co)).toArray 27
    rw [hA] at this
    exact this
  obtain ⟨wB, hB⟩ : ∃ W : World, wA.alloc (.cells #[.int .i8 t.op, .int .i8 t.fld, .int .u64 t.n, .slice p len cap, qv] 34) = W := ⟨_, rfl⟩
  have xB : Ext wA wB := hB ▸ Ext.alloc _ _
  have sB : wB.heap.size = w.heap.size + 2 := by rw [← hB, World.size_alloc, sA]
  have rB : wB.rangeAt (w.heap.size + 1) 0 [.int .i8 t.op, .int .i8 t.fld, .int .u64 t.n, .slice p len cap, qv] := by
    have := rangeAt_new wA #[.int .i8 t.op, .int .i8 t.fld, .int .u64 t.n, .slice p len cap, qv] 34
    rw [hB, sA] at this
    exact this
  have HX := Lib.hid (xA.trans xB)
  have HHC := Lib.hid (fun W (hW : Ext wB W) => hop_cells (World.rangeAt.later (xB.trans hW).later rA))
  have HPC := Lib.hid (fun W (hW : Ext wB W) => show W.cell? ⟨w.heap.size + 1, 0, none⟩ = some (.int .i8 t.op) ∧ W.cell? ⟨w.heap.size + 1, 1, none⟩ = some (.int .i8 t.fld) ∧ W.cell? ⟨w.heap.size + 1, 2, none⟩ = some (.int .u64 t.n) ∧ W.cell? ⟨w.heap.size + 1, 3, none⟩ = some (.slice p len cap) ∧ W.cell? ⟨w.heap.size + 1, 4, none⟩ = some qv from by
    have hr := World.rangeAt.later hW.later rB
    exact ⟨by simpa using hr 0 _ rfl, by simpa using hr 1 _ rfl, by simpa using hr 2 _ rfl, by simpa using hr 3 _ rfl, by simpa using hr 4 _ rfl⟩)
  have HO := Lib.hid (show out = [] ∨ ∃ b o, po = some ⟨b, o, none⟩ ∧ ∀ W, Ext wB W → W.rangeAt b o (flatH out) from
    hout.imp id fun ⟨b, o, hp, _, hr⟩ => ⟨b, o, hp, fun W hW => World.rangeAt.later ((xA.trans xB).trans hW).later hr⟩)
  have HEQ := Lib.hid (show w.alloc (.cells (hopCs step pol x (.slice po lo co)).toArray 27) = wA ∧ wA.alloc (.cells #[.int .i8 t.op, .int .i8 t.fld, .int .u64 t.n, .slice p len cap, qv] 34) = wB from ⟨hA, hB⟩)
  have HCK := Lib.hid (checkQ_any t qs _ wB (HPV.out.later HX.out.later))
  obtain ⟨b0, b1, b2, b3, b4⟩ := HPC.out _ (Ext.refl _)
  clear xA sA rA hA xB rB hB hlo hout hmax
  go_enter Try.func10, Try.ntmps10
  go_upto_region 1 with fail
  rw [HEQ.out.1, HEQ.out.2]
  clear HEQ
  go_wp2_with fail
  refine HCK.out.mono ?_
  rintro e w1 ⟨rfl, hx1⟩
  clear b0 b1 b2 b3 b4
  obtain ⟨b0, b1, b2, b3, b4⟩ := HPC.out _ hx1
  have hhc := HHC.out _ hx1
  have HRX := Lib.hid hhc.2.2.1
  have c3 := cellAt hhc.2.2.1 3 (by omega)
  have c13 := hhc.2.2.2
  simp only [Nat.zero_add, Nat.reduceAdd] at c3 c13
  have HX1 := Lib.hid hx1
  clear hhc
  by_cases h0 : checkP t qs = 0
  case neg =>
    have HF := Lib.hid (show hopP t qs x out = false from by simp [hopP, h0])
    have hd : (checkP t qs == 0) = false := by simpa using h0
    generalize checkP t qs = y at *
    go_wp2_with fail
    go_ret
    exact ⟨by rw [HF.out]; rfl, HX.out.trans HX1.out⟩
  have HP1 := Lib.hid (show hopP t qs x out = (decide (x.f 3 = 0) && (decide ((ofC t x).1 = 0) && hopL (ofC t x).2 [] out)) from by simp [hopP, h0])
  rw [h0]
  clear h0
  by_cases h3 : x.f 3 = 0
  case neg =>
    have HF := Lib.hid (show hopP t qs x out = false from by rw [HP1.out]; simp [h3])
    have hd : (x.f 3 == 0) = false := by simpa using h3
    generalize x.f 3 = y at *
    go_wp2_with fail
    go_ret
    exact ⟨by rw [HF.out]; rfl, HX.out.trans HX1.out⟩
  have HP2 := Lib.hid (show hopP t qs x out = (decide ((ofC t x).1 = 0) && hopL (ofC t x).2 [] out) from by rw [HP1.out]; simp [h3])
  rw [h3] at c3
  clear h3 HP1
  have HOF := Lib.hid (meaningOf_any t _ x w1 (show t.Val w1 (.agg #[.int .i8 t.op, .int .i8 t.fld, .int .u64 t.n, .slice p len cap]) from by
    obtain ⟨_, _, _, _, he, hvt, -⟩ := HPV.out
    simp at he
    obtain ⟨⟨rfl, rfl, rfl⟩, rfl⟩ := he
    exact hvt.later (HX.out.trans HX1.out).later))
  generalize ofC t x = R at *
  obtain ⟨c, l⟩ := R
  go_upto_region 3 with fail
  go_wp2_with (first | (refine wpList_load_H rfl _ rfl w.heap.size 2 rfl x HRX.out ?_))
  refine HOF.out.mono ?_
  rintro e w2 ⟨hx2, h64, v2, rfl, hown2⟩
  have HX2 := Lib.hid (HX1.out.trans hx2)
  obtain ⟨p2, len2, cap2, rfl, hlen2, hl2⟩ := HSl.of_owns hown2
  have HL2 := Lib.hid hlen2
  have hlen64 : len2 ≤ 64 := by rw [hlen2]; exact h64
  clear b0 b1 b2 b3 b4 c3 c13 hown2 hlen2
  have c13 := (HHC.out _ HX2.out).2.2.2
  simp only [Nat.zero_add] at c13
  by_cases hc0 : c = 0
  case neg =>
    have HF := Lib.hid (show hopP t qs x out = false from by rw [HP2.out]; simp [hc0])
    have hd : (c == 0) = false := by simpa using hc0
    go_wp2_with fail
    go_ret
    exact ⟨by rw [HF.out]; rfl, HX.out.trans HX2.out⟩
  have HP3 := Lib.hid (show hopP t qs x out = hopL l [] out from by rw [HP2.out]; simp [hc0])
  subst hc0
  have hmm := @run_makeMap Try.prog
  have HM0 := Lib.hid (LeftIs.made w2)
  have HXM := Lib.hid (HX2.out.andAlloc (.map #[] 0))
  have HLR := Lib.hid (show l = [] ∨ ∃ b o, p2 = some ⟨b, o, none⟩ ∧ b < w2.heap.size ∧ w2.rangeAt b o (flatH l) from by
    rcases hl2 with h | ⟨b, o, rfl, hb, hr⟩
    · exact .inl h
    · refine (Nat.eq_zero_or_pos l.length).imp (fun h => List.length_eq_zero_iff.1 h) fun h => ⟨b, o, rfl, ?_, hr⟩
      have := World.block_lt_of_cell? w2 _ (rangeAt_get Hdr.len_cs hr 0 h 0 _ (show (l[0]).cs.toList[0]? = some _ from by rw [Array.getElem?_toList]; exact (l[0]).cell 0 (by omega)))
      exact this)
  have hsw : wB.heap.size ≤ w2.heap.size := HX2.out.size
  have sB' : wB.heap.size = w.heap.size + 2 := sB
  clear hl2 HP2
  go_wp2_with fail
  clear c13
  go_loopw [34] (fun i wr => ∃ j : Nat, j ≤ len2 ∧ i = .int .i64 j ∧ Hid (LeftIs wr w2.heap.size (l.take j) []) ∧ Hid (Keep (· = w2.heap.size) w2 wr)) (fun i _ => len2 - (intOf i).toNat)
  case atStart => exact ⟨0, Nat.zero_le _, rfl, HM0.out, (Ext.alloc _ _).keep _⟩
  case round =>
    obtain ⟨wo, rfl⟩ : ∃ wo : World, wo = wr := ⟨_, rfl⟩
    obtain ⟨j, hj, rfl, hm, hk⟩ := hrel
    by_cases hlt : j < len2
    · have hjl : j < l.length := by rw [← HL2.out]; exact hlt
      rcases HLR.out with hl | ⟨b, o, rfl, hb, hr⟩
      · exfalso; subst hl; simp at hjl
      have HRe := Lib.hid (hk.out.range (rangeAt_get Hdr.len_cs hr j hjl) (show ¬ b = w2.heap.size by omega))
      have hlt2 := hm.out.lt
      have HTk := Lib.hid (List.take_succ_eq_append_getElem hjl)
      generalize l[j] = y at *
      have hm2 := hm.out.ext (Ext.alloc wo (.cells y.cs 24))
      obtain ⟨w3, hup, hm3, hg3⟩ := hm2.fill y
      have HUP := Lib.hid hup
      have HRN := Lib.hid (rangeAt_new wo y.cs 24)
      have HM3 := Lib.hid hm3
      have HK3 := Lib.hid (hk.out.trans (((Ext.alloc wo (.cells y.cs 24)).keep _).trans (Keep.grown hg3)))
      clear hr hup hm3 hm2 hg3
      go_wp2_with (first
        | (refine wpList_store_new rfl 24 _ _ rfl _ y.cs rfl rfl (by rw [y.size_cs]; kernel_rfl) (by rw [y.size_cs]; rfl) (all_oneCell_toArray y.one) ?_)
        | (refine wpList_load_H rfl _ rfl _ _ rfl y HRe.out ?_)
        | (refine wpList_load_H rfl _ rfl _ _ rfl y HRN.out ?_)
        | (refine wpList_update_run rfl 61 _ _ _ (.inl rfl) _ _ _ _ rfl rfl rfl HUP.out ?_))
      go_roundw
      case rel => exact ⟨j + 1, by omega, by go_num, by rw [HTk.out]; exact HM3.out, HK3.out⟩
      case measure => simp [intOf]; omega
    · have HM := Lib.hid (show LeftIs wo w2.heap.size l [] from by
        have := hm.out
        rwa [List.take_of_length_le (by have := HL2.out; omega)] at this)
      have hx0 : Ext wB wo := HX2.out.andKeep hk.out (fun i hi => by rw [hi]; exact hsw)
      have c13 := (HHC.out _ hx0).2.2.2
      simp only [Nat.zero_add] at c13
      have hszo : w2.heap.size < wo.heap.size := hm.out.lt
      clear hm
      go_wp2_with fail
      clear c13
      go_loopw [44] (fun i wr => ∃ j : Nat, j ≤ lo ∧ i = .int .i64 j ∧ Hid (LeftIs wr w2.heap.size l (out.take j)) ∧ Hid (hopL l (out.take j) (out.drop j) = hopL l [] out) ∧ Hid (Ext wB wr)) (fun i _ => lo - (intOf i).toNat)
      case atStart => exact ⟨0, Nat.zero_le _, rfl, HM.out, rfl, hx0⟩
      case round =>
        obtain ⟨wn, rfl⟩ : ∃ wn : World, wn = wr := ⟨_, rfl⟩
        obtain ⟨j, hj, rfl, hm, hH, hx⟩ := hrel
        by_cases hlt3 : j < lo
        · have hjl : j < out.length := by rw [← HLO.out]; exact hlt3
          rcases HO.out with hl | ⟨b, o, rfl, hr⟩
          · exfalso; subst hl; simp at hjl
          have HRe := Lib.hid (rangeAt_get Hdr.len_cs (hr _ hx.out) j hjl)
          have HTk := Lib.hid (List.take_succ_eq_append_getElem hjl)
          have hH2 := hH.out
          rw [drop_get hjl, hopL] at hH2
          generalize out[j] = y at *
          have xS : Ext wn (wn.alloc (.cells y.cs 24)) := Ext.alloc _ _
          have hltm := hm.out.lt
          by_cases hg : y ∈ l ∧ y ∉ out.take j
          · have HG := Lib.hid (show hopL l (out.take j ++ [y]) (out.drop (j + 1)) = hopL l [] out from by rw [← hH2]; simp [hg.1, hg.2])
            clear hH2
            obtain ⟨st, w3, w4, q1, q2, q3, q4, g3, g4, hok, hq⟩ := ((hm.out.ext xS).ext (Ext.drew _)).take y 1 (0) (by rw [if_neg hg.2, if_pos hg.1]) (by omega)
            have HRN := Lib.hid (rangeAt_new wn y.cs 24)
            have hne : ¬ wn.heap.size = w2.heap.size := by omega
            have HRN4 := Lib.hid ((Keep.grown g4).range (World.rangeAt.later (Ext.drew _).later HRN.out) hne)
            have HX4 := Lib.hid (show Ext wB w4 from ((hx.out.trans xS).trans (Ext.drew _)).andKeep (Keep.grown g4) (fun i hi => by rw [hi]; exact hsw))
            have HRD := Lib.hid (World.rangeAt.later (Ext.drew _).later HRN.out)
            obtain ⟨wS, hS⟩ : ∃ W : World, wn.alloc (.cells y.cs 24) = W := ⟨_, rfl⟩
            rw [hS] at q1 q2 HRN HRD
            have HEQ := Lib.hid hS
            have HQ4 := Lib.hid (hq w4 (Ext.refl _))
            have HOK := Lib.hid hok
            have ps : ∀ i, i < 11 → wS.drew.cell? ⟨wn.heap.size, i, none⟩ = some (.int .u64 (y.f i)) := fun i hi => by
              have := cellAt HRD.out i hi
              rwa [Nat.zero_add] at this
            have p0 := ps 0 (by omega)
            have p1 := ps 1 (by omega)
            have p2 := ps 2 (by omega)
            have p3 := ps 3 (by omega)
            have p4 := ps 4 (by omega)
            have p5 := ps 5 (by omega)
            have p6 := ps 6 (by omega)
            have p7 := ps 7 (by omega)
            have p8 := ps 8 (by omega)
            have p9 := ps 9 (by omega)
            have p10 := ps 10 (by omega)
            simp only [Hdr.cs_eq] at q1 q2 q3 q4
            clear hq hS hr hH hok g3 g4 xS ps hm
            go_upto_region 15 with (first
              | (refine wpList_store_new rfl 24 _ _ rfl _ y.cs rfl rfl (by rw [y.size_cs]; kernel_rfl) (by rw [y.size_cs]; rfl) (all_oneCell_toArray y.one) ?_)
              | (refine wpList_load_H rfl _ rfl _ _ rfl y HRe.out ?_))
            rw [HEQ.out]
            clear HEQ
            simp only [Act.put]
            go_cut [] (fun wx => Hid (wx = w4))
            case first =>
              go_region
              all_goals (go_wp2_with fail; go_meet; rfl)
            case rest =>
              have hcw := hcut.out
              subst hcw
              clear hcut p0 p1 p2 p3 p4 p5 p6 p7 p8 p9 p10 q1 q2 q3 q4
              have hl4 := HQ4.out
              go_wp2_with (first
                | (refine wpList_load_H rfl _ rfl _ _ rfl y HRN4.out ?_)
                | (refine wpList_lookup_run rfl 61 _ _ false rfl _ _ _ rfl rfl HQ4.out ?_))
              go_roundw
              case rel => exact ⟨j + 1, by omega, by go_num, by rw [HTk.out]; exact HOK.out rfl, by rw [HTk.out]; exact HG.out, HX4.out⟩
              case measure => simp [intOf]; omega
          · have HF := Lib.hid (show hopP t qs x out = false from by
              rw [HP3.out, ← hH2]
              by_cases h1 : y ∈ l
              · have h2 : y ∈ out.take j := Classical.not_not.1 fun h => hg ⟨h1, h⟩
                simp [h1, h2]
              · simp [h1])
            clear hH2
            obtain ⟨st, w3, w4, q1, q2, q3, q4, g3, g4, hok, hq⟩ := ((hm.out.ext xS).ext (Ext.drew _)).take y 0 (-1) (by
              by_cases h2 : y ∈ out.take j
              · rw [if_pos h2]
              · rw [if_neg h2, if_neg (fun h1 => hg ⟨h1, h2⟩)]) (by omega)
            have HRN := Lib.hid (rangeAt_new wn y.cs 24)
            have hne : ¬ wn.heap.size = w2.heap.size := by omega
            have HRN4 := Lib.hid ((Keep.grown g4).range (World.rangeAt.later (Ext.drew _).later HRN.out) hne)
            have HX4 := Lib.hid (show Ext wB w4 from ((hx.out.trans xS).trans (Ext.drew _)).andKeep (Keep.grown g4) (fun i hi => by rw [hi]; exact hsw))
            have HRD := Lib.hid (World.rangeAt.later (Ext.drew _).later HRN.out)
            obtain ⟨wS, hS⟩ : ∃ W : World, wn.alloc (.cells y.cs 24) = W := ⟨_, rfl⟩
            rw [hS] at q1 q2 HRN HRD
            have HEQ := Lib.hid hS
            have HQ4 := Lib.hid (hq w4 (Ext.refl _))
            have HOK := Lib.hid hok
            have ps : ∀ i, i < 11 → wS.drew.cell? ⟨wn.heap.size, i, none⟩ = some (.int .u64 (y.f i)) := fun i hi => by
              have := cellAt HRD.out i hi
              rwa [Nat.zero_add] at this
            have p0 := ps 0 (by omega)
            have p1 := ps 1 (by omega)
            have p2 := ps 2 (by omega)
            have p3 := ps 3 (by omega)
            have p4 := ps 4 (by omega)
            have p5 := ps 5 (by omega)
            have p6 := ps 6 (by omega)
            have p7 := ps 7 (by omega)
            have p8 := ps 8 (by omega)
            have p9 := ps 9 (by omega)
            have p10 := ps 10 (by omega)
            simp only [Hdr.cs_eq] at q1 q2 q3 q4
            clear hq hS hr hH hok g3 g4 xS ps hm
            go_upto_region 15 with (first
              | (refine wpList_store_new rfl 24 _ _ rfl _ y.cs rfl rfl (by rw [y.size_cs]; kernel_rfl) (by rw [y.size_cs]; rfl) (all_oneCell_toArray y.one) ?_)
              | (refine wpList_load_H rfl _ rfl _ _ rfl y HRe.out ?_))
            rw [HEQ.out]
            clear HEQ
            simp only [Act.put]
            go_cut [] (fun wx => Hid (wx = w4))
            case first =>
              go_region
              all_goals (go_wp2_with fail; go_meet; rfl)
            case rest =>
              have hcw := hcut.out
              subst hcw
              clear hcut p0 p1 p2 p3 p4 p5 p6 p7 p8 p9 p10 q1 q2 q3 q4
              have hl4 := HQ4.out
              go_wp2_with (first
                | (refine wpList_load_H rfl _ rfl _ _ rfl y HRN4.out ?_)
                | (refine wpList_lookup_run rfl 61 _ _ false rfl _ _ _ rfl rfl HQ4.out ?_))
              go_ret
              exact ⟨by rw [HF.out]; rfl, HX.out.trans HX4.out⟩
        · have HF := Lib.hid (show hopP t qs x out = true from by
            rw [HP3.out, ← hH.out, List.drop_of_length_le (by have := HLO.out; omega), hopL])
          clear hm hH
          go_wp2_with fail
          go_ret
          exact ⟨by rw [HF.out]; rfl, HX.out.trans hx.out⟩
end Go.Proofs.Ytddeelepaiklgaa
/- judge.Trace. -/
namespace Go.Proofs.Ytddeelepaiklgaa
open Go.RowKit Go.Maps
set_option linter.unusedSimpArgs false

/-- a hop's parts -/
structure HopD where
  step : Int
  pol : Int
  x : Hdr
  out : List Hdr
def HAt (w : World) (h : HopD) (b o : Nat) : Prop := ∃ ov, w.rangeAt b o (hopCs h.step h.pol h.x ov) ∧ HSl w 0 h.out ov ∧ h.out.length ≤ 9223372036854775807 ∧ -9223372036854775808 ≤ h.pol ∧ h.pol ≤ 9223372036854775807
theorem HAt.later {w w' : World} {h : HopD} {b o : Nat} (hx : Ext w w') (k : HAt w h b o) : HAt w' h b o := by
  obtain ⟨ov, h1, h2, h3⟩ := k
  exact ⟨ov, World.rangeAt.later hx.later h1, h2.ext hx, h3⟩
def HsAt (w : World) (l : List HopD) (b o : Nat) : Prop := ∀ i (h : i < l.length), HAt w (l[i]) b (o + i * 14)
abbrev PolD := Tm × List Qr
def PAt (w : World) (q : PolD) (b o : Nat) : Prop := ∃ p len cap qv, w.rangeAt b o [.int .i8 q.1.op, .int .i8 q.1.fld, .int .u64 q.1.n, .slice p len cap, qv] ∧ q.1.Val w (.agg #[.int .i8 q.1.op, .int .i8 q.1.fld, .int .u64 q.1.n, .slice p len cap]) ∧ Qs w q.2 qv
theorem PAt.later {w w' : World} {q : PolD} {b o : Nat} (hx : Ext w w') (k : PAt w q b o) : PAt w' q b o := by
  obtain ⟨p, len, cap, qv, h1, h2, h3⟩ := k
  exact ⟨p, len, cap, qv, World.rangeAt.later hx.later h1, h2.later hx.later, h3.later hx.later⟩
/-- a slice of such things -/
def SlOf {α : Type} (At : World → α → Nat → Nat → Prop) (k : Nat) (w : World) (l : List α) (v : Value) : Prop :=
  ∃ p len cap, v = .slice p len cap ∧ len = l.length ∧ len ≤ cap ∧ cap ≤ 9223372036854775807 ∧ (l = [] ∨ ∃ b o, p = some ⟨b, o, none⟩ ∧ ∀ i (h : i < l.length), At w (l[i]) b (o + i * k))
def hopOk (all : List PolD) (h : HopD) : Bool := match all[(h.pol - 1).toNat]? with
  | some q => decide (1 ≤ h.pol) && hopP q.1 q.2 h.x h.out
  | none => false
def traceL (n : Int) (all : List PolD) : List HopD → Bool
  | [] => true
  | h :: hs => decide (h.pol = n) && (hopOk all h && traceL n all hs)
def traceP (l : List HopD) (all : List PolD) : Bool := match l with
  | [] => true
  | h :: hs => traceL h.pol all (h :: hs)
theorem all_one_hop {h : HopD} {n : Int} {ov : Value} (hov : ov.oneCell' = true) : ∀ v ∈ hopCs h.step n h.x ov, v.oneCell' = true := by
  intro v hv
  unfold hopCs at hv
  rcases List.mem_append.1 hv with hv | hv
  · simp at hv; rcases hv with rfl | rfl <;> rfl
  · rcases List.mem_append.1 hv with hv | hv
    · exact h.x.one v hv
    · rw [List.mem_singleton] at hv; subst hv; exact hov
theorem size_hopCs (a b : Int) (x : Hdr) (v : Value) : (hopCs a b x v).toArray.size = 14 := by
  unfold hopCs; rw [List.size_toArray, List.length_append, List.length_append, x.len_cs]; rfl

set_option maxHeartbeats 8000000 in
set_option maxRecDepth 100000 in
theorem trace_any (l : List HopD) (all : List PolD) (lv av : Value) (w : World) (hl : SlOf HAt 14 w l lv) (ha : SlOf PAt 5 w all av) :
    Calls Try.prog 13 #[lv, av] w fun e w' => e = .returned (.bool (traceP l all)) ∧ Ext w w' := by
  obtain ⟨pl, len, cap, rfl, hlen, hlc, hcm, hls⟩ := hl
  obtain ⟨pa, len2, cap2, rfl, hlen2, hlc2, hcm2, has⟩ := ha
  have HL := Lib.hid hlen
  have HL2 := Lib.hid hlen2
  have huH := Try.underlying27
  have hiH : ∀ (a b : Int) (x : Hdr) (v : Value), (Try.prog.info? 27).map (·.size) = some (hopCs a b x v).length := fun a b x v => by
    rw [← List.size_toArray, size_hopCs]; kernel_rfl
  have hiP : (Try.prog.info? 34).map (·.size) = some 5 := by kernel_rfl
  have huP := Try.underlying34
  have HUS := Lib.hid (And.intro huH (And.intro hiH (And.intro hiP huP)))
  clear huH hiH hiP huP hlen hlen2
  by_cases hl0 : len = 0
  · have HF := Lib.hid (show traceP l all = true from by
      have : l = [] := List.length_eq_zero_iff.1 (by rw [← HL.out]; exact hl0)
      rw [this]; rfl)
    subst hl0
    go_enter Try.func13, Try.ntmps13
    go_wp2_with fail
    refine wp_loop_rounds 1 ?_
    rw [rounds_succ]
    go_wp2_with fail
    go_ret
    exact ⟨by rw [HF.out]; rfl, Ext.refl _⟩
  have hlp : 0 < l.length := by have := HL.out; omega
  rcases hls with hls | ⟨b, o, rfl, hls⟩
  · exfalso; subst hls; simp at hlp
  have hlenp : 0 < len := by omega
  have HP := Lib.hid (show traceP l all = traceL (l[0]).pol all l from by
    cases l with
    | nil => simp at hlp
    | cons h hs => rfl)
  have HHS := Lib.hid (fun W (hW : Ext w W) i (h : i < l.length) => (hls i h).later hW)
  have h00 : HAt w (l[0]) b o := by have := hls 0 hlp; rwa [Nat.zero_mul, Nat.add_zero] at this
  obtain ⟨_, hr0, -⟩ := h00
  have HR0 := Lib.hid (fun W (hW : Ext w W) => hW.later _ _ (hop_cells hr0).2.1)
  generalize hn0 : (l[0]).pol = n0 at *
  clear hls hr0 hl0
  go_enter Try.func13, Try.ntmps13
  go_wp2_with fail
  go_loopw [9] (fun i wr => ∃ j : Nat, j ≤ len ∧ i = .int .i64 j ∧ Hid (traceL n0 all (l.drop j) = traceL n0 all l) ∧ Hid (Ext w wr)) (fun i _ => len - (intOf i).toNat)
  case atStart => exact ⟨0, Nat.zero_le _, rfl, rfl, Ext.refl _⟩
  case round =>
    obtain ⟨wn, rfl⟩ : ∃ wn : World, wn = wr := ⟨_, rfl⟩
    obtain ⟨j, hj, rfl, hT, hx⟩ := hrel
    by_cases hlt : j < len
    · have hjl : j < l.length := by rw [← HL.out]; exact hlt
      obtain ⟨ov, hr, hov, hmx, hpl, hpu⟩ := HHS.out wn hx.out j hjl
      have hT2 := hT.out
      rw [drop_get hjl, traceL] at hT2
      generalize l[j] = h at *
      have hone : ov.oneCell' = true := by obtain ⟨_, _, _, rfl, -⟩ := hov; rfl
      have hone14 := all_one_hop (h := h) (n := h.pol) hone
      obtain ⟨wS, hS⟩ : ∃ W : World, wn.alloc (.cells (hopCs h.step h.pol h.x ov).toArray 27) = W := ⟨_, rfl⟩
      have xS : Ext wn wS := hS ▸ Ext.alloc _ _
      have rS : wS.rangeAt wn.heap.size 0 (hopCs h.step h.pol h.x ov) := by
        have := rangeAt_new wn (hopCs h.step h.pol h.x ov).toArray 27
        rw [hS] at this
        exact this
      have HRe := Lib.hid hr
      have HEQ := Lib.hid hS
      have HRS := Lib.hid rS
      have HXS := Lib.hid (hx.out.trans xS)
      have HONE := Lib.hid hone14
      have e0 := HR0.out _ HXS.out
      have e1 := (hop_cells rS).2.1
      rw [Nat.zero_add] at e1
      have hsl : HSl wS 0 h.out ov := hov.ext xS
      have HSL := Lib.hid hsl
      clear hr hS rS xS hone14 hov hT hone hsl
      have hi14 : (Try.prog.info? 27).map (·.size) = some 14 := by kernel_rfl
      go_upto_region 4 with (first
        | (refine wpList_store_new rfl 27 _ _ rfl _ (hopCs h.step h.pol h.x ov).toArray rfl rfl (by rw [size_hopCs]; kernel_rfl) (by rw [size_hopCs]; rfl) (all_oneCell_toArray HONE.out) ?_)
        | (refine wpList_load_mid rfl 27 _ rfl b (o + j * 14) rfl (hopCs h.step h.pol h.x ov) _ HRe.out Try.underlying27 rfl (HUS.out.2.1 _ _ _ _) ?_))
      rw [HEQ.out]
      try simp only [Act.put]
      by_cases hp : h.pol = n0
      case neg =>
        have HF := Lib.hid (show traceP l all = false from by rw [HP.out, ← hT2]; simp [hp])
        have hd : (h.pol == n0) = false := by simpa using hp
        generalize h.pol = y at *
        have hxd : Ext wS wS.drew := Ext.drew _
        have HS2 := Lib.hid (fun W (hW : Ext wS W) => show W.cell? ⟨wn.heap.size, 1, none⟩ = some (.int .i64 y) ∧ W.cell? ⟨b, o + 1, none⟩ = some (.int .i64 n0) from ⟨hW.later _ _ e1, hW.later _ _ e0⟩)
        clear e0 e1
        clear hT2
        refine wp_region_noPanic ?_
        refine wp_region_held_drew (S := (fun W => W.cell? ⟨wn.heap.size, 1, none⟩ = some (.int .i64 y) ∧ W.cell? ⟨b, o + 1, none⟩ = some (.int .i64 n0))) (by kernel_rfl) (HS2.out _ hxd) (fun hHeld => ?_)
        refine wpAnyH_take (i := 0) (v := .pointer (some ⟨wn.heap.size, 1, none⟩)) rfl (by kernel_rfl) (by kernel_rfl) (by kernel_rfl) (fun _ _ _ h => h) (Or.inl ⟨by rfl, by (intro w hSw; (try dsimp only at hSw); go_simp; try (first | omega | (rw [IntKind.wrap_i64]; omega)))⟩) (by assumption) ?_
        try simp only [List.getElem_toArray, List.getElem_cons_zero, List.getElem_cons_succ, Act.put, List.setIfInBounds_toArray, List.set_cons_zero, List.set_cons_succ, Array.toArray_toList]
        refine wpAnyH_take (i := 1) (v := .int .i64 y) rfl (by kernel_rfl) (by kernel_rfl) (by kernel_rfl) (fun _ _ _ h => h) (Or.inl ⟨by rfl, by (intro w hSw; (try dsimp only at hSw); go_simp; try (first | omega | (rw [IntKind.wrap_i64]; omega)))⟩) (by assumption) ?_
        try simp only [List.getElem_toArray, List.getElem_cons_zero, List.getElem_cons_succ, Act.put, List.setIfInBounds_toArray, List.set_cons_zero, List.set_cons_succ, Array.toArray_toList]
        refine wpAnyH_take (i := 2) (v := .slice (some ⟨b, o, none⟩) len cap) rfl (by kernel_rfl) (by kernel_rfl) (by kernel_rfl) (fun _ _ _ h => h) (Or.inl ⟨by rfl, by (intro w hSw; (try dsimp only at hSw); go_simp; try (first | omega | (rw [IntKind.wrap_i64]; omega)))⟩) (by assumption) ?_
        try simp only [List.getElem_toArray, List.getElem_cons_zero, List.getElem_cons_succ, Act.put, List.setIfInBounds_toArray, List.set_cons_zero, List.set_cons_succ, Array.toArray_toList]
        refine wpAnyH_take (i := 3) (v := .pointer (some ⟨b, o, none⟩)) rfl (by kernel_rfl) (by kernel_rfl) (by kernel_rfl) (fun _ _ _ h => h) (Or.inl ⟨by rfl, by (intro w hSw; (try dsimp only at hSw); go_simp; try (first | omega | (rw [IntKind.wrap_i64]; omega)))⟩) (by assumption) ?_
        try simp only [List.getElem_toArray, List.getElem_cons_zero, List.getElem_cons_succ, Act.put, List.setIfInBounds_toArray, List.set_cons_zero, List.set_cons_succ, Array.toArray_toList]
        refine wpAnyH_take (i := 4) (v := .pointer (some ⟨b, o + 1, none⟩)) rfl (by kernel_rfl) (by kernel_rfl) (by kernel_rfl) (fun _ _ _ h => h) (Or.inl ⟨by rfl, by (intro w hSw; (try dsimp only at hSw); go_simp; try (first | omega | (rw [IntKind.wrap_i64]; omega)))⟩) (by assumption) ?_
        try simp only [List.getElem_toArray, List.getElem_cons_zero, List.getElem_cons_succ, Act.put, List.setIfInBounds_toArray, List.set_cons_zero, List.set_cons_succ, Array.toArray_toList]
        refine wpAnyH_take (i := 5) (v := .int .i64 n0) rfl (by kernel_rfl) (by kernel_rfl) (by kernel_rfl) (fun _ _ _ h => h) (Or.inl ⟨by rfl, by (intro w hSw; (try dsimp only at hSw); go_simp; try (first | omega | (rw [IntKind.wrap_i64]; omega)))⟩) (by assumption) ?_
        try simp only [List.getElem_toArray, List.getElem_cons_zero, List.getElem_cons_succ, Act.put, List.setIfInBounds_toArray, List.set_cons_zero, List.set_cons_succ, Array.toArray_toList]
        refine wpAnyH_take (i := 6) (v := .bool true) rfl (by kernel_rfl) (by kernel_rfl) (by kernel_rfl) (fun _ _ _ h => h) (Or.inl ⟨by rfl, by (intro w hSw; (try dsimp only at hSw); go_simp; try (first | omega | (rw [IntKind.wrap_i64]; omega)))⟩) (by assumption) ?_
        try simp only [List.getElem_toArray, List.getElem_cons_zero, List.getElem_cons_succ, Act.put, List.setIfInBounds_toArray, List.set_cons_zero, List.set_cons_succ, Array.toArray_toList]
        refine wpAnyH_take (i := 7) (v := .bool true) rfl (by kernel_rfl) (by kernel_rfl) (by kernel_rfl) (fun _ _ _ h => h) (Or.inl ⟨by rfl, by (intro w hSw; (try dsimp only at hSw); go_simp; try (first | omega | (rw [IntKind.wrap_i64]; omega)))⟩) (by assumption) ?_
        try simp only [List.getElem_toArray, List.getElem_cons_zero, List.getElem_cons_succ, Act.put, List.setIfInBounds_toArray, List.set_cons_zero, List.set_cons_succ, Array.toArray_toList]
        refine wpAnyH_take (i := 8) (v := undef) rfl (by kernel_rfl) (by kernel_rfl) (by kernel_rfl) (fun _ _ _ h => h) (Or.inr ⟨by rfl, rfl⟩) (by assumption) ?_
        try simp only [List.getElem_toArray, List.getElem_cons_zero, List.getElem_cons_succ, Act.put, List.setIfInBounds_toArray, List.set_cons_zero, List.set_cons_succ, Array.toArray_toList]
        refine wpAnyH_take (i := 9) (v := undef) rfl (by kernel_rfl) (by kernel_rfl) (by kernel_rfl) (fun _ _ _ h => h) (Or.inr ⟨by rfl, rfl⟩) (by assumption) ?_
        try simp only [List.getElem_toArray, List.getElem_cons_zero, List.getElem_cons_succ, Act.put, List.setIfInBounds_toArray, List.set_cons_zero, List.set_cons_succ, Array.toArray_toList]
        refine wpAnyH_take (i := 10) (v := undef) rfl (by kernel_rfl) (by kernel_rfl) (by kernel_rfl) (fun _ _ _ h => h) (Or.inr ⟨by rfl, rfl⟩) (by assumption) ?_
        try simp only [List.getElem_toArray, List.getElem_cons_zero, List.getElem_cons_succ, Act.put, List.setIfInBounds_toArray, List.set_cons_zero, List.set_cons_succ, Array.toArray_toList]
        refine wpAnyH_take (i := 11) (v := .bool true) rfl (by kernel_rfl) (by kernel_rfl) (by kernel_rfl) (fun _ _ _ h => h) (Or.inl ⟨by rfl, by (intro w hSw; (try dsimp only at hSw); go_simp; try (first | omega | (rw [IntKind.wrap_i64]; omega)))⟩) (by assumption) ?_
        try simp only [List.getElem_toArray, List.getElem_cons_zero, List.getElem_cons_succ, Act.put, List.setIfInBounds_toArray, List.set_cons_zero, List.set_cons_succ, Array.toArray_toList]
        refine wpAnyH_take (i := 12) (v := .bool true) rfl (by kernel_rfl) (by kernel_rfl) (by kernel_rfl) (fun _ _ _ h => h) (Or.inl ⟨by rfl, by (intro w hSw; (try dsimp only at hSw); go_simp; try (first | omega | (rw [IntKind.wrap_i64]; omega)))⟩) (by assumption) ?_
        try simp only [List.getElem_toArray, List.getElem_cons_zero, List.getElem_cons_succ, Act.put, List.setIfInBounds_toArray, List.set_cons_zero, List.set_cons_succ, Array.toArray_toList]
        refine wpAnyH_take (i := 13) (v := undef) rfl (by kernel_rfl) (by kernel_rfl) (by kernel_rfl) (fun _ _ _ h => h) (Or.inr ⟨by rfl, rfl⟩) (by assumption) ?_
        try simp only [List.getElem_toArray, List.getElem_cons_zero, List.getElem_cons_succ, Act.put, List.setIfInBounds_toArray, List.set_cons_zero, List.set_cons_succ, Array.toArray_toList]
        refine wpAnyH_take (i := 14) (v := undef) rfl (by kernel_rfl) (by kernel_rfl) (by kernel_rfl) (fun _ _ _ h => h) (Or.inr ⟨by rfl, rfl⟩) (by assumption) ?_
        try simp only [List.getElem_toArray, List.getElem_cons_zero, List.getElem_cons_succ, Act.put, List.setIfInBounds_toArray, List.set_cons_zero, List.set_cons_succ, Array.toArray_toList]
        refine wpAnyH_take (i := 15) (v := undef) rfl (by kernel_rfl) (by kernel_rfl) (by kernel_rfl) (fun _ _ _ h => h) (Or.inr ⟨by rfl, rfl⟩) (by assumption) ?_
        try simp only [List.getElem_toArray, List.getElem_cons_zero, List.getElem_cons_succ, Act.put, List.setIfInBounds_toArray, List.set_cons_zero, List.set_cons_succ, Array.toArray_toList]
        refine wpAnyH_take (i := 16) (v := undef) rfl (by kernel_rfl) (by kernel_rfl) (by kernel_rfl) (fun _ _ _ h => h) (Or.inr ⟨by rfl, rfl⟩) (by assumption) ?_
        try simp only [List.getElem_toArray, List.getElem_cons_zero, List.getElem_cons_succ, Act.put, List.setIfInBounds_toArray, List.set_cons_zero, List.set_cons_succ, Array.toArray_toList]
        refine wpAnyH_take (i := 17) (v := undef) rfl (by kernel_rfl) (by kernel_rfl) (by kernel_rfl) (fun _ _ _ h => h) (Or.inr ⟨by rfl, rfl⟩) (by assumption) ?_
        try simp only [List.getElem_toArray, List.getElem_cons_zero, List.getElem_cons_succ, Act.put, List.setIfInBounds_toArray, List.set_cons_zero, List.set_cons_succ, Array.toArray_toList]
        refine wpAnyH_take (i := 18) (v := .bool true) rfl (by kernel_rfl) (by kernel_rfl) (by kernel_rfl) (fun _ _ _ h => h) (Or.inl ⟨by rfl, by (intro w hSw; (try dsimp only at hSw); go_simp; try (first | omega | (rw [IntKind.wrap_i64]; omega)))⟩) (by assumption) ?_
        try simp only [List.getElem_toArray, List.getElem_cons_zero, List.getElem_cons_succ, Act.put, List.setIfInBounds_toArray, List.set_cons_zero, List.set_cons_succ, Array.toArray_toList]
        refine wpAnyH_take (i := 19) (v := .bool true) rfl (by kernel_rfl) (by kernel_rfl) (by kernel_rfl) (fun _ _ _ h => h) (Or.inl ⟨by rfl, by (intro w hSw; (try dsimp only at hSw); go_simp; try (first | omega | (rw [IntKind.wrap_i64]; omega)))⟩) (by assumption) ?_
        try simp only [List.getElem_toArray, List.getElem_cons_zero, List.getElem_cons_succ, Act.put, List.setIfInBounds_toArray, List.set_cons_zero, List.set_cons_succ, Array.toArray_toList]
        refine wpAnyH_take (i := 20) (v := undef) rfl (by kernel_rfl) (by kernel_rfl) (by kernel_rfl) (fun _ _ _ h => h) (Or.inr ⟨by rfl, rfl⟩) (by assumption) ?_
        try simp only [List.getElem_toArray, List.getElem_cons_zero, List.getElem_cons_succ, Act.put, List.setIfInBounds_toArray, List.set_cons_zero, List.set_cons_succ, Array.toArray_toList]
        refine wpAnyH_take (i := 21) (v := undef) rfl (by kernel_rfl) (by kernel_rfl) (by kernel_rfl) (fun _ _ _ h => h) (Or.inr ⟨by rfl, rfl⟩) (by assumption) ?_
        try simp only [List.getElem_toArray, List.getElem_cons_zero, List.getElem_cons_succ, Act.put, List.setIfInBounds_toArray, List.set_cons_zero, List.set_cons_succ, Array.toArray_toList]
        refine wpAnyH_take (i := 22) (v := undef) rfl (by kernel_rfl) (by kernel_rfl) (by kernel_rfl) (fun _ _ _ h => h) (Or.inr ⟨by rfl, rfl⟩) (by assumption) ?_
        try simp only [List.getElem_toArray, List.getElem_cons_zero, List.getElem_cons_succ, Act.put, List.setIfInBounds_toArray, List.set_cons_zero, List.set_cons_succ, Array.toArray_toList]
        refine wpAnyH_take (i := 23) (v := undef) rfl (by kernel_rfl) (by kernel_rfl) (by kernel_rfl) (fun _ _ _ h => h) (Or.inr ⟨by rfl, rfl⟩) (by assumption) ?_
        try simp only [List.getElem_toArray, List.getElem_cons_zero, List.getElem_cons_succ, Act.put, List.setIfInBounds_toArray, List.set_cons_zero, List.set_cons_succ, Array.toArray_toList]
        refine wpAnyH_take (i := 24) (v := undef) rfl (by kernel_rfl) (by kernel_rfl) (by kernel_rfl) (fun _ _ _ h => h) (Or.inr ⟨by rfl, rfl⟩) (by assumption) ?_
        try simp only [List.getElem_toArray, List.getElem_cons_zero, List.getElem_cons_succ, Act.put, List.setIfInBounds_toArray, List.set_cons_zero, List.set_cons_succ, Array.toArray_toList]
        refine wpAnyH_take (i := 25) (v := undef) rfl (by kernel_rfl) (by kernel_rfl) (by kernel_rfl) (fun _ _ _ h => h) (Or.inr ⟨by rfl, rfl⟩) (by assumption) ?_
        try simp only [List.getElem_toArray, List.getElem_cons_zero, List.getElem_cons_succ, Act.put, List.setIfInBounds_toArray, List.set_cons_zero, List.set_cons_succ, Array.toArray_toList]
        refine wpAnyH_take (i := 26) (v := undef) rfl (by kernel_rfl) (by kernel_rfl) (by kernel_rfl) (fun _ _ _ h => h) (Or.inr ⟨by rfl, rfl⟩) (by assumption) ?_
        try simp only [List.getElem_toArray, List.getElem_cons_zero, List.getElem_cons_succ, Act.put, List.setIfInBounds_toArray, List.set_cons_zero, List.set_cons_succ, Array.toArray_toList]
        refine wpAnyH_ready (rs := [27]) (by kernel_rfl) (by simp) ?_
        refine AllReadyH.cons (i := 27) rfl (fun K hK => ?_) AllReadyH.nil
        go_simp
        refine hK.out _ _ (HS2.out _ hxd) (fun hHeld2 => ?_)
        clear hK K hHeld
        try simp only [List.getElem_toArray, List.getElem_cons_zero, List.getElem_cons_succ, Act.put, List.setIfInBounds_toArray, List.set_cons_zero, List.set_cons_succ, Array.toArray_toList]
        refine wpAnyH_take (i := 28) (v := undef) rfl (by kernel_rfl) (by kernel_rfl) (by kernel_rfl) (fun _ _ _ h => h) (Or.inr ⟨by rfl, rfl⟩) (by assumption) ?_
        try simp only [List.getElem_toArray, List.getElem_cons_zero, List.getElem_cons_succ, Act.put, List.setIfInBounds_toArray, List.set_cons_zero, List.set_cons_succ, Array.toArray_toList]
        refine wpAnyH_take (i := 29) (v := .bool true) rfl (by kernel_rfl) (by kernel_rfl) (by kernel_rfl) (fun _ _ _ h => h) (Or.inl ⟨by rfl, by (intro w hSw; (try dsimp only at hSw); go_simp; try (first | omega | (rw [IntKind.wrap_i64]; omega)))⟩) (by assumption) ?_
        try simp only [List.getElem_toArray, List.getElem_cons_zero, List.getElem_cons_succ, Act.put, List.setIfInBounds_toArray, List.set_cons_zero, List.set_cons_succ, Array.toArray_toList]
        refine wpAnyH_done (by kernel_rfl) ?_ _
        refine NoPanic.normal ?_
        go_wp2_with fail
        go_ret
        exact ⟨by rw [HF.out]; rfl, HXS.out.trans hxd⟩
      have hT3 : (hopOk all h && traceL n0 all (l.drop (j + 1))) = traceL n0 all l := by rw [← hT2]; simp [hp]
      clear hT2
      rw [← hp] at e0
      by_cases h1 : h.pol < 1
      · have HF := Lib.hid (show traceP l all = false from by
          rw [HP.out, ← hT3]
          have : hopOk all h = false := by
            unfold hopOk
            cases all[(h.pol - 1).toNat]? with
            | none => rfl
            | some q => simp; intro h2; omega
          rw [this]; rfl)
        clear hT3
        generalize h.pol = y at *
        have hxd : Ext wS wS.drew := Ext.drew _
        have HS2 := Lib.hid (fun W (hW : Ext wS W) => show W.cell? ⟨wn.heap.size, 1, none⟩ = some (.int .i64 y) ∧ W.cell? ⟨b, o + 1, none⟩ = some (.int .i64 y) from ⟨hW.later _ _ e1, hW.later _ _ e0⟩)
        clear e0 e1
        refine wp_region_noPanic ?_
        refine wp_region_held_drew (S := (fun W => W.cell? ⟨wn.heap.size, 1, none⟩ = some (.int .i64 y) ∧ W.cell? ⟨b, o + 1, none⟩ = some (.int .i64 y))) (by kernel_rfl) (HS2.out _ hxd) (fun hHeld => ?_)
        refine wpAnyH_take (i := 0) (v := .pointer (some ⟨wn.heap.size, 1, none⟩)) rfl (by kernel_rfl) (by kernel_rfl) (by kernel_rfl) (fun _ _ _ h => h) (Or.inl ⟨by rfl, by (intro w hSw; (try dsimp only at hSw); go_simp; try (first | omega | (rw [IntKind.wrap_i64]; omega)))⟩) (by assumption) ?_
        try simp only [List.getElem_toArray, List.getElem_cons_zero, List.getElem_cons_succ, Act.put, List.setIfInBounds_toArray, List.set_cons_zero, List.set_cons_succ, Array.toArray_toList]
        refine wpAnyH_take (i := 1) (v := .int .i64 y) rfl (by kernel_rfl) (by kernel_rfl) (by kernel_rfl) (fun _ _ _ h => h) (Or.inl ⟨by rfl, by (intro w hSw; (try dsimp only at hSw); go_simp; try (first | omega | (rw [IntKind.wrap_i64]; omega)))⟩) (by assumption) ?_
        try simp only [List.getElem_toArray, List.getElem_cons_zero, List.getElem_cons_succ, Act.put, List.setIfInBounds_toArray, List.set_cons_zero, List.set_cons_succ, Array.toArray_toList]
        refine wpAnyH_take (i := 2) (v := .slice (some ⟨b, o, none⟩) len cap) rfl (by kernel_rfl) (by kernel_rfl) (by kernel_rfl) (fun _ _ _ h => h) (Or.inl ⟨by rfl, by (intro w hSw; (try dsimp only at hSw); go_simp; try (first | omega | (rw [IntKind.wrap_i64]; omega)))⟩) (by assumption) ?_
        try simp only [List.getElem_toArray, List.getElem_cons_zero, List.getElem_cons_succ, Act.put, List.setIfInBounds_toArray, List.set_cons_zero, List.set_cons_succ, Array.toArray_toList]
        refine wpAnyH_take (i := 3) (v := .pointer (some ⟨b, o, none⟩)) rfl (by kernel_rfl) (by kernel_rfl) (by kernel_rfl) (fun _ _ _ h => h) (Or.inl ⟨by rfl, by (intro w hSw; (try dsimp only at hSw); go_simp; try (first | omega | (rw [IntKind.wrap_i64]; omega)))⟩) (by assumption) ?_
        try simp only [List.getElem_toArray, List.getElem_cons_zero, List.getElem_cons_succ, Act.put, List.setIfInBounds_toArray, List.set_cons_zero, List.set_cons_succ, Array.toArray_toList]
        refine wpAnyH_take (i := 4) (v := .pointer (some ⟨b, o + 1, none⟩)) rfl (by kernel_rfl) (by kernel_rfl) (by kernel_rfl) (fun _ _ _ h => h) (Or.inl ⟨by rfl, by (intro w hSw; (try dsimp only at hSw); go_simp; try (first | omega | (rw [IntKind.wrap_i64]; omega)))⟩) (by assumption) ?_
        try simp only [List.getElem_toArray, List.getElem_cons_zero, List.getElem_cons_succ, Act.put, List.setIfInBounds_toArray, List.set_cons_zero, List.set_cons_succ, Array.toArray_toList]
        refine wpAnyH_take (i := 5) (v := .int .i64 y) rfl (by kernel_rfl) (by kernel_rfl) (by kernel_rfl) (fun _ _ _ h => h) (Or.inl ⟨by rfl, by (intro w hSw; (try dsimp only at hSw); go_simp; try (first | omega | (rw [IntKind.wrap_i64]; omega)))⟩) (by assumption) ?_
        try simp only [List.getElem_toArray, List.getElem_cons_zero, List.getElem_cons_succ, Act.put, List.setIfInBounds_toArray, List.set_cons_zero, List.set_cons_succ, Array.toArray_toList]
        refine wpAnyH_take (i := 6) (v := .bool false) rfl (by kernel_rfl) (by kernel_rfl) (by kernel_rfl) (fun _ _ _ h => h) (Or.inl ⟨by rfl, by (intro w hSw; (try dsimp only at hSw); go_simp; try (first | omega | (rw [IntKind.wrap_i64]; omega)))⟩) (by assumption) ?_
        try simp only [List.getElem_toArray, List.getElem_cons_zero, List.getElem_cons_succ, Act.put, List.setIfInBounds_toArray, List.set_cons_zero, List.set_cons_succ, Array.toArray_toList]
        refine wpAnyH_take (i := 7) (v := .bool false) rfl (by kernel_rfl) (by kernel_rfl) (by kernel_rfl) (fun _ _ _ h => h) (Or.inl ⟨by rfl, by (intro w hSw; (try dsimp only at hSw); go_simp; try (first | omega | (rw [IntKind.wrap_i64]; omega)))⟩) (by assumption) ?_
        try simp only [List.getElem_toArray, List.getElem_cons_zero, List.getElem_cons_succ, Act.put, List.setIfInBounds_toArray, List.set_cons_zero, List.set_cons_succ, Array.toArray_toList]
        refine wpAnyH_take (i := 8) (v := .pointer (some ⟨wn.heap.size, 1, none⟩)) rfl (by kernel_rfl) (by kernel_rfl) (by kernel_rfl) (fun _ _ _ h => h) (Or.inl ⟨by rfl, by (intro w hSw; (try dsimp only at hSw); go_simp; try (first | omega | (rw [IntKind.wrap_i64]; omega)))⟩) (by assumption) ?_
        try simp only [List.getElem_toArray, List.getElem_cons_zero, List.getElem_cons_succ, Act.put, List.setIfInBounds_toArray, List.set_cons_zero, List.set_cons_succ, Array.toArray_toList]
        refine wpAnyH_take (i := 9) (v := .int .i64 y) rfl (by kernel_rfl) (by kernel_rfl) (by kernel_rfl) (fun _ _ _ h => h) (Or.inl ⟨by rfl, by (intro w hSw; (try dsimp only at hSw); go_simp; try (first | omega | (rw [IntKind.wrap_i64]; omega)))⟩) (by assumption) ?_
        try simp only [List.getElem_toArray, List.getElem_cons_zero, List.getElem_cons_succ, Act.put, List.setIfInBounds_toArray, List.set_cons_zero, List.set_cons_succ, Array.toArray_toList]
        refine wpAnyH_take (i := 10) (v := .bool true) rfl (by kernel_rfl) (by kernel_rfl) (by kernel_rfl) (fun _ _ _ h => h) (Or.inl ⟨by rfl, by (intro w hSw; (try dsimp only at hSw); go_simp; try (first | omega | (rw [IntKind.wrap_i64]; omega)))⟩) (by assumption) ?_
        try simp only [List.getElem_toArray, List.getElem_cons_zero, List.getElem_cons_succ, Act.put, List.setIfInBounds_toArray, List.set_cons_zero, List.set_cons_succ, Array.toArray_toList]
        refine wpAnyH_take (i := 11) (v := .bool true) rfl (by kernel_rfl) (by kernel_rfl) (by kernel_rfl) (fun _ _ _ h => h) (Or.inl ⟨by rfl, by (intro w hSw; (try dsimp only at hSw); go_simp; try (first | omega | (rw [IntKind.wrap_i64]; omega)))⟩) (by assumption) ?_
        try simp only [List.getElem_toArray, List.getElem_cons_zero, List.getElem_cons_succ, Act.put, List.setIfInBounds_toArray, List.set_cons_zero, List.set_cons_succ, Array.toArray_toList]
        refine wpAnyH_take (i := 12) (v := .bool true) rfl (by kernel_rfl) (by kernel_rfl) (by kernel_rfl) (fun _ _ _ h => h) (Or.inl ⟨by rfl, by (intro w hSw; (try dsimp only at hSw); go_simp; try (first | omega | (rw [IntKind.wrap_i64]; omega)))⟩) (by assumption) ?_
        try simp only [List.getElem_toArray, List.getElem_cons_zero, List.getElem_cons_succ, Act.put, List.setIfInBounds_toArray, List.set_cons_zero, List.set_cons_succ, Array.toArray_toList]
        refine wpAnyH_take (i := 13) (v := undef) rfl (by kernel_rfl) (by kernel_rfl) (by kernel_rfl) (fun _ _ _ h => h) (Or.inr ⟨by rfl, rfl⟩) (by assumption) ?_
        try simp only [List.getElem_toArray, List.getElem_cons_zero, List.getElem_cons_succ, Act.put, List.setIfInBounds_toArray, List.set_cons_zero, List.set_cons_succ, Array.toArray_toList]
        refine wpAnyH_take (i := 14) (v := undef) rfl (by kernel_rfl) (by kernel_rfl) (by kernel_rfl) (fun _ _ _ h => h) (Or.inr ⟨by rfl, rfl⟩) (by assumption) ?_
        try simp only [List.getElem_toArray, List.getElem_cons_zero, List.getElem_cons_succ, Act.put, List.setIfInBounds_toArray, List.set_cons_zero, List.set_cons_succ, Array.toArray_toList]
        refine wpAnyH_take (i := 15) (v := undef) rfl (by kernel_rfl) (by kernel_rfl) (by kernel_rfl) (fun _ _ _ h => h) (Or.inr ⟨by rfl, rfl⟩) (by assumption) ?_
        try simp only [List.getElem_toArray, List.getElem_cons_zero, List.getElem_cons_succ, Act.put, List.setIfInBounds_toArray, List.set_cons_zero, List.set_cons_succ, Array.toArray_toList]
        refine wpAnyH_take (i := 16) (v := undef) rfl (by kernel_rfl) (by kernel_rfl) (by kernel_rfl) (fun _ _ _ h => h) (Or.inr ⟨by rfl, rfl⟩) (by assumption) ?_
        try simp only [List.getElem_toArray, List.getElem_cons_zero, List.getElem_cons_succ, Act.put, List.setIfInBounds_toArray, List.set_cons_zero, List.set_cons_succ, Array.toArray_toList]
        refine wpAnyH_take (i := 17) (v := undef) rfl (by kernel_rfl) (by kernel_rfl) (by kernel_rfl) (fun _ _ _ h => h) (Or.inr ⟨by rfl, rfl⟩) (by assumption) ?_
        try simp only [List.getElem_toArray, List.getElem_cons_zero, List.getElem_cons_succ, Act.put, List.setIfInBounds_toArray, List.set_cons_zero, List.set_cons_succ, Array.toArray_toList]
        refine wpAnyH_take (i := 18) (v := .bool true) rfl (by kernel_rfl) (by kernel_rfl) (by kernel_rfl) (fun _ _ _ h => h) (Or.inl ⟨by rfl, by (intro w hSw; (try dsimp only at hSw); go_simp; try (first | omega | (rw [IntKind.wrap_i64]; omega)))⟩) (by assumption) ?_
        try simp only [List.getElem_toArray, List.getElem_cons_zero, List.getElem_cons_succ, Act.put, List.setIfInBounds_toArray, List.set_cons_zero, List.set_cons_succ, Array.toArray_toList]
        refine wpAnyH_take (i := 19) (v := .bool true) rfl (by kernel_rfl) (by kernel_rfl) (by kernel_rfl) (fun _ _ _ h => h) (Or.inl ⟨by rfl, by (intro w hSw; (try dsimp only at hSw); go_simp; try (first | omega | (rw [IntKind.wrap_i64]; omega)))⟩) (by assumption) ?_
        try simp only [List.getElem_toArray, List.getElem_cons_zero, List.getElem_cons_succ, Act.put, List.setIfInBounds_toArray, List.set_cons_zero, List.set_cons_succ, Array.toArray_toList]
        refine wpAnyH_take (i := 20) (v := undef) rfl (by kernel_rfl) (by kernel_rfl) (by kernel_rfl) (fun _ _ _ h => h) (Or.inr ⟨by rfl, rfl⟩) (by assumption) ?_
        try simp only [List.getElem_toArray, List.getElem_cons_zero, List.getElem_cons_succ, Act.put, List.setIfInBounds_toArray, List.set_cons_zero, List.set_cons_succ, Array.toArray_toList]
        refine wpAnyH_take (i := 21) (v := undef) rfl (by kernel_rfl) (by kernel_rfl) (by kernel_rfl) (fun _ _ _ h => h) (Or.inr ⟨by rfl, rfl⟩) (by assumption) ?_
        try simp only [List.getElem_toArray, List.getElem_cons_zero, List.getElem_cons_succ, Act.put, List.setIfInBounds_toArray, List.set_cons_zero, List.set_cons_succ, Array.toArray_toList]
        refine wpAnyH_take (i := 22) (v := undef) rfl (by kernel_rfl) (by kernel_rfl) (by kernel_rfl) (fun _ _ _ h => h) (Or.inr ⟨by rfl, rfl⟩) (by assumption) ?_
        try simp only [List.getElem_toArray, List.getElem_cons_zero, List.getElem_cons_succ, Act.put, List.setIfInBounds_toArray, List.set_cons_zero, List.set_cons_succ, Array.toArray_toList]
        refine wpAnyH_take (i := 23) (v := undef) rfl (by kernel_rfl) (by kernel_rfl) (by kernel_rfl) (fun _ _ _ h => h) (Or.inr ⟨by rfl, rfl⟩) (by assumption) ?_
        try simp only [List.getElem_toArray, List.getElem_cons_zero, List.getElem_cons_succ, Act.put, List.setIfInBounds_toArray, List.set_cons_zero, List.set_cons_succ, Array.toArray_toList]
        refine wpAnyH_take (i := 24) (v := undef) rfl (by kernel_rfl) (by kernel_rfl) (by kernel_rfl) (fun _ _ _ h => h) (Or.inr ⟨by rfl, rfl⟩) (by assumption) ?_
        try simp only [List.getElem_toArray, List.getElem_cons_zero, List.getElem_cons_succ, Act.put, List.setIfInBounds_toArray, List.set_cons_zero, List.set_cons_succ, Array.toArray_toList]
        refine wpAnyH_take (i := 25) (v := undef) rfl (by kernel_rfl) (by kernel_rfl) (by kernel_rfl) (fun _ _ _ h => h) (Or.inr ⟨by rfl, rfl⟩) (by assumption) ?_
        try simp only [List.getElem_toArray, List.getElem_cons_zero, List.getElem_cons_succ, Act.put, List.setIfInBounds_toArray, List.set_cons_zero, List.set_cons_succ, Array.toArray_toList]
        refine wpAnyH_take (i := 26) (v := undef) rfl (by kernel_rfl) (by kernel_rfl) (by kernel_rfl) (fun _ _ _ h => h) (Or.inr ⟨by rfl, rfl⟩) (by assumption) ?_
        try simp only [List.getElem_toArray, List.getElem_cons_zero, List.getElem_cons_succ, Act.put, List.setIfInBounds_toArray, List.set_cons_zero, List.set_cons_succ, Array.toArray_toList]
        refine wpAnyH_ready (rs := [27]) (by kernel_rfl) (by simp) ?_
        refine AllReadyH.cons (i := 27) rfl (fun K hK => ?_) AllReadyH.nil
        go_simp
        refine hK.out _ _ (HS2.out _ hxd) (fun hHeld2 => ?_)
        clear hK K hHeld
        try simp only [List.getElem_toArray, List.getElem_cons_zero, List.getElem_cons_succ, Act.put, List.setIfInBounds_toArray, List.set_cons_zero, List.set_cons_succ, Array.toArray_toList]
        refine wpAnyH_take (i := 28) (v := undef) rfl (by kernel_rfl) (by kernel_rfl) (by kernel_rfl) (fun _ _ _ h => h) (Or.inr ⟨by rfl, rfl⟩) (by assumption) ?_
        try simp only [List.getElem_toArray, List.getElem_cons_zero, List.getElem_cons_succ, Act.put, List.setIfInBounds_toArray, List.set_cons_zero, List.set_cons_succ, Array.toArray_toList]
        refine wpAnyH_take (i := 29) (v := .bool true) rfl (by kernel_rfl) (by kernel_rfl) (by kernel_rfl) (fun _ _ _ h => h) (Or.inl ⟨by rfl, by (intro w hSw; (try dsimp only at hSw); go_simp; try (first | omega | (rw [IntKind.wrap_i64]; omega)))⟩) (by assumption) ?_
        try simp only [List.getElem_toArray, List.getElem_cons_zero, List.getElem_cons_succ, Act.put, List.setIfInBounds_toArray, List.set_cons_zero, List.set_cons_succ, Array.toArray_toList]
        refine wpAnyH_done (by kernel_rfl) ?_ _
        refine NoPanic.normal ?_
        go_wp2_with fail
        go_ret
        exact ⟨by rw [HF.out]; rfl, HXS.out.trans hxd⟩
      by_cases h2 : (len2 : Int) < h.pol
      · have HF := Lib.hid (show traceP l all = false from by
          rw [HP.out, ← hT3]
          have : hopOk all h = false := by
            unfold hopOk
            rw [List.getElem?_eq_none (by have := HL2.out; omega)]
          rw [this]; rfl)
        clear hT3
        generalize h.pol = y at *
        have hxd : Ext wS wS.drew := Ext.drew _
        have HS2 := Lib.hid (fun W (hW : Ext wS W) => show W.cell? ⟨wn.heap.size, 1, none⟩ = some (.int .i64 y) ∧ W.cell? ⟨b, o + 1, none⟩ = some (.int .i64 y) from ⟨hW.later _ _ e1, hW.later _ _ e0⟩)
        clear e0 e1
        refine wp_region_noPanic ?_
        refine wp_region_held_drew (S := (fun W => W.cell? ⟨wn.heap.size, 1, none⟩ = some (.int .i64 y) ∧ W.cell? ⟨b, o + 1, none⟩ = some (.int .i64 y))) (by kernel_rfl) (HS2.out _ hxd) (fun hHeld => ?_)
        refine wpAnyH_take (i := 0) (v := .pointer (some ⟨wn.heap.size, 1, none⟩)) rfl (by kernel_rfl) (by kernel_rfl) (by kernel_rfl) (fun _ _ _ h => h) (Or.inl ⟨by rfl, by (intro w hSw; (try dsimp only at hSw); go_simp; try (first | omega | (rw [IntKind.wrap_i64]; omega)))⟩) (by assumption) ?_
        try simp only [List.getElem_toArray, List.getElem_cons_zero, List.getElem_cons_succ, Act.put, List.setIfInBounds_toArray, List.set_cons_zero, List.set_cons_succ, Array.toArray_toList]
        refine wpAnyH_take (i := 1) (v := .int .i64 y) rfl (by kernel_rfl) (by kernel_rfl) (by kernel_rfl) (fun _ _ _ h => h) (Or.inl ⟨by rfl, by (intro w hSw; (try dsimp only at hSw); go_simp; try (first | omega | (rw [IntKind.wrap_i64]; omega)))⟩) (by assumption) ?_
        try simp only [List.getElem_toArray, List.getElem_cons_zero, List.getElem_cons_succ, Act.put, List.setIfInBounds_toArray, List.set_cons_zero, List.set_cons_succ, Array.toArray_toList]
        refine wpAnyH_take (i := 2) (v := .slice (some ⟨b, o, none⟩) len cap) rfl (by kernel_rfl) (by kernel_rfl) (by kernel_rfl) (fun _ _ _ h => h) (Or.inl ⟨by rfl, by (intro w hSw; (try dsimp only at hSw); go_simp; try (first | omega | (rw [IntKind.wrap_i64]; omega)))⟩) (by assumption) ?_
        try simp only [List.getElem_toArray, List.getElem_cons_zero, List.getElem_cons_succ, Act.put, List.setIfInBounds_toArray, List.set_cons_zero, List.set_cons_succ, Array.toArray_toList]
        refine wpAnyH_take (i := 3) (v := .pointer (some ⟨b, o, none⟩)) rfl (by kernel_rfl) (by kernel_rfl) (by kernel_rfl) (fun _ _ _ h => h) (Or.inl ⟨by rfl, by (intro w hSw; (try dsimp only at hSw); go_simp; try (first | omega | (rw [IntKind.wrap_i64]; omega)))⟩) (by assumption) ?_
        try simp only [List.getElem_toArray, List.getElem_cons_zero, List.getElem_cons_succ, Act.put, List.setIfInBounds_toArray, List.set_cons_zero, List.set_cons_succ, Array.toArray_toList]
        refine wpAnyH_take (i := 4) (v := .pointer (some ⟨b, o + 1, none⟩)) rfl (by kernel_rfl) (by kernel_rfl) (by kernel_rfl) (fun _ _ _ h => h) (Or.inl ⟨by rfl, by (intro w hSw; (try dsimp only at hSw); go_simp; try (first | omega | (rw [IntKind.wrap_i64]; omega)))⟩) (by assumption) ?_
        try simp only [List.getElem_toArray, List.getElem_cons_zero, List.getElem_cons_succ, Act.put, List.setIfInBounds_toArray, List.set_cons_zero, List.set_cons_succ, Array.toArray_toList]
        refine wpAnyH_take (i := 5) (v := .int .i64 y) rfl (by kernel_rfl) (by kernel_rfl) (by kernel_rfl) (fun _ _ _ h => h) (Or.inl ⟨by rfl, by (intro w hSw; (try dsimp only at hSw); go_simp; try (first | omega | (rw [IntKind.wrap_i64]; omega)))⟩) (by assumption) ?_
        try simp only [List.getElem_toArray, List.getElem_cons_zero, List.getElem_cons_succ, Act.put, List.setIfInBounds_toArray, List.set_cons_zero, List.set_cons_succ, Array.toArray_toList]
        refine wpAnyH_take (i := 6) (v := .bool false) rfl (by kernel_rfl) (by kernel_rfl) (by kernel_rfl) (fun _ _ _ h => h) (Or.inl ⟨by rfl, by (intro w hSw; (try dsimp only at hSw); go_simp; try (first | omega | (rw [IntKind.wrap_i64]; omega)))⟩) (by assumption) ?_
        try simp only [List.getElem_toArray, List.getElem_cons_zero, List.getElem_cons_succ, Act.put, List.setIfInBounds_toArray, List.set_cons_zero, List.set_cons_succ, Array.toArray_toList]
        refine wpAnyH_take (i := 7) (v := .bool false) rfl (by kernel_rfl) (by kernel_rfl) (by kernel_rfl) (fun _ _ _ h => h) (Or.inl ⟨by rfl, by (intro w hSw; (try dsimp only at hSw); go_simp; try (first | omega | (rw [IntKind.wrap_i64]; omega)))⟩) (by assumption) ?_
        try simp only [List.getElem_toArray, List.getElem_cons_zero, List.getElem_cons_succ, Act.put, List.setIfInBounds_toArray, List.set_cons_zero, List.set_cons_succ, Array.toArray_toList]
        refine wpAnyH_take (i := 8) (v := .pointer (some ⟨wn.heap.size, 1, none⟩)) rfl (by kernel_rfl) (by kernel_rfl) (by kernel_rfl) (fun _ _ _ h => h) (Or.inl ⟨by rfl, by (intro w hSw; (try dsimp only at hSw); go_simp; try (first | omega | (rw [IntKind.wrap_i64]; omega)))⟩) (by assumption) ?_
        try simp only [List.getElem_toArray, List.getElem_cons_zero, List.getElem_cons_succ, Act.put, List.setIfInBounds_toArray, List.set_cons_zero, List.set_cons_succ, Array.toArray_toList]
        refine wpAnyH_take (i := 9) (v := .int .i64 y) rfl (by kernel_rfl) (by kernel_rfl) (by kernel_rfl) (fun _ _ _ h => h) (Or.inl ⟨by rfl, by (intro w hSw; (try dsimp only at hSw); go_simp; try (first | omega | (rw [IntKind.wrap_i64]; omega)))⟩) (by assumption) ?_
        try simp only [List.getElem_toArray, List.getElem_cons_zero, List.getElem_cons_succ, Act.put, List.setIfInBounds_toArray, List.set_cons_zero, List.set_cons_succ, Array.toArray_toList]
        refine wpAnyH_take (i := 10) (v := .bool false) rfl (by kernel_rfl) (by kernel_rfl) (by kernel_rfl) (fun _ _ _ h => h) (Or.inl ⟨by rfl, by (intro w hSw; (try dsimp only at hSw); go_simp; try (first | omega | (rw [IntKind.wrap_i64]; omega)))⟩) (by assumption) ?_
        try simp only [List.getElem_toArray, List.getElem_cons_zero, List.getElem_cons_succ, Act.put, List.setIfInBounds_toArray, List.set_cons_zero, List.set_cons_succ, Array.toArray_toList]
        refine wpAnyH_take (i := 11) (v := .bool false) rfl (by kernel_rfl) (by kernel_rfl) (by kernel_rfl) (fun _ _ _ h => h) (Or.inl ⟨by rfl, by (intro w hSw; (try dsimp only at hSw); go_simp; try (first | omega | (rw [IntKind.wrap_i64]; omega)))⟩) (by assumption) ?_
        try simp only [List.getElem_toArray, List.getElem_cons_zero, List.getElem_cons_succ, Act.put, List.setIfInBounds_toArray, List.set_cons_zero, List.set_cons_succ, Array.toArray_toList]
        refine wpAnyH_take (i := 12) (v := .bool false) rfl (by kernel_rfl) (by kernel_rfl) (by kernel_rfl) (fun _ _ _ h => h) (Or.inl ⟨by rfl, by (intro w hSw; (try dsimp only at hSw); go_simp; try (first | omega | (rw [IntKind.wrap_i64]; omega)))⟩) (by assumption) ?_
        try simp only [List.getElem_toArray, List.getElem_cons_zero, List.getElem_cons_succ, Act.put, List.setIfInBounds_toArray, List.set_cons_zero, List.set_cons_succ, Array.toArray_toList]
        refine wpAnyH_take (i := 13) (v := .pointer (some ⟨wn.heap.size, 1, none⟩)) rfl (by kernel_rfl) (by kernel_rfl) (by kernel_rfl) (fun _ _ _ h => h) (Or.inl ⟨by rfl, by (intro w hSw; (try dsimp only at hSw); go_simp; try (first | omega | (rw [IntKind.wrap_i64]; omega)))⟩) (by assumption) ?_
        try simp only [List.getElem_toArray, List.getElem_cons_zero, List.getElem_cons_succ, Act.put, List.setIfInBounds_toArray, List.set_cons_zero, List.set_cons_succ, Array.toArray_toList]
        refine wpAnyH_take (i := 14) (v := .int .i64 y) rfl (by kernel_rfl) (by kernel_rfl) (by kernel_rfl) (fun _ _ _ h => h) (Or.inl ⟨by rfl, by (intro w hSw; (try dsimp only at hSw); go_simp; try (first | omega | (rw [IntKind.wrap_i64]; omega)))⟩) (by assumption) ?_
        try simp only [List.getElem_toArray, List.getElem_cons_zero, List.getElem_cons_succ, Act.put, List.setIfInBounds_toArray, List.set_cons_zero, List.set_cons_succ, Array.toArray_toList]
        refine wpAnyH_take (i := 15) (v := .slice pa len2 cap2) rfl (by kernel_rfl) (by kernel_rfl) (by kernel_rfl) (fun _ _ _ h => h) (Or.inl ⟨by rfl, by (intro w hSw; (try dsimp only at hSw); go_simp; try (first | omega | (rw [IntKind.wrap_i64]; omega)))⟩) (by assumption) ?_
        try simp only [List.getElem_toArray, List.getElem_cons_zero, List.getElem_cons_succ, Act.put, List.setIfInBounds_toArray, List.set_cons_zero, List.set_cons_succ, Array.toArray_toList]
        refine wpAnyH_take (i := 16) (v := .int .i64 len2) rfl (by kernel_rfl) (by kernel_rfl) (by kernel_rfl) (fun _ _ _ h => h) (Or.inl ⟨by rfl, by (intro w hSw; (try dsimp only at hSw); go_simp; try (first | omega | (rw [IntKind.wrap_i64]; omega)))⟩) (by assumption) ?_
        try simp only [List.getElem_toArray, List.getElem_cons_zero, List.getElem_cons_succ, Act.put, List.setIfInBounds_toArray, List.set_cons_zero, List.set_cons_succ, Array.toArray_toList]
        refine wpAnyH_take (i := 17) (v := .bool true) rfl (by kernel_rfl) (by kernel_rfl) (by kernel_rfl) (fun _ _ _ h => h) (Or.inl ⟨by rfl, by (intro w hSw; (try dsimp only at hSw); go_simp; try (first | omega | (rw [IntKind.wrap_i64]; omega)))⟩) (by assumption) ?_
        try simp only [List.getElem_toArray, List.getElem_cons_zero, List.getElem_cons_succ, Act.put, List.setIfInBounds_toArray, List.set_cons_zero, List.set_cons_succ, Array.toArray_toList]
        refine wpAnyH_take (i := 18) (v := .bool true) rfl (by kernel_rfl) (by kernel_rfl) (by kernel_rfl) (fun _ _ _ h => h) (Or.inl ⟨by rfl, by (intro w hSw; (try dsimp only at hSw); go_simp; try (first | omega | (rw [IntKind.wrap_i64]; omega)))⟩) (by assumption) ?_
        try simp only [List.getElem_toArray, List.getElem_cons_zero, List.getElem_cons_succ, Act.put, List.setIfInBounds_toArray, List.set_cons_zero, List.set_cons_succ, Array.toArray_toList]
        refine wpAnyH_take (i := 19) (v := .bool true) rfl (by kernel_rfl) (by kernel_rfl) (by kernel_rfl) (fun _ _ _ h => h) (Or.inl ⟨by rfl, by (intro w hSw; (try dsimp only at hSw); go_simp; try (first | omega | (rw [IntKind.wrap_i64]; omega)))⟩) (by assumption) ?_
        try simp only [List.getElem_toArray, List.getElem_cons_zero, List.getElem_cons_succ, Act.put, List.setIfInBounds_toArray, List.set_cons_zero, List.set_cons_succ, Array.toArray_toList]
        refine wpAnyH_take (i := 20) (v := undef) rfl (by kernel_rfl) (by kernel_rfl) (by kernel_rfl) (fun _ _ _ h => h) (Or.inr ⟨by rfl, rfl⟩) (by assumption) ?_
        try simp only [List.getElem_toArray, List.getElem_cons_zero, List.getElem_cons_succ, Act.put, List.setIfInBounds_toArray, List.set_cons_zero, List.set_cons_succ, Array.toArray_toList]
        refine wpAnyH_take (i := 21) (v := undef) rfl (by kernel_rfl) (by kernel_rfl) (by kernel_rfl) (fun _ _ _ h => h) (Or.inr ⟨by rfl, rfl⟩) (by assumption) ?_
        try simp only [List.getElem_toArray, List.getElem_cons_zero, List.getElem_cons_succ, Act.put, List.setIfInBounds_toArray, List.set_cons_zero, List.set_cons_succ, Array.toArray_toList]
        refine wpAnyH_take (i := 22) (v := undef) rfl (by kernel_rfl) (by kernel_rfl) (by kernel_rfl) (fun _ _ _ h => h) (Or.inr ⟨by rfl, rfl⟩) (by assumption) ?_
        try simp only [List.getElem_toArray, List.getElem_cons_zero, List.getElem_cons_succ, Act.put, List.setIfInBounds_toArray, List.set_cons_zero, List.set_cons_succ, Array.toArray_toList]
        refine wpAnyH_take (i := 23) (v := undef) rfl (by kernel_rfl) (by kernel_rfl) (by kernel_rfl) (fun _ _ _ h => h) (Or.inr ⟨by rfl, rfl⟩) (by assumption) ?_
        try simp only [List.getElem_toArray, List.getElem_cons_zero, List.getElem_cons_succ, Act.put, List.setIfInBounds_toArray, List.set_cons_zero, List.set_cons_succ, Array.toArray_toList]
        refine wpAnyH_take (i := 24) (v := undef) rfl (by kernel_rfl) (by kernel_rfl) (by kernel_rfl) (fun _ _ _ h => h) (Or.inr ⟨by rfl, rfl⟩) (by assumption) ?_
        try simp only [List.getElem_toArray, List.getElem_cons_zero, List.getElem_cons_succ, Act.put, List.setIfInBounds_toArray, List.set_cons_zero, List.set_cons_succ, Array.toArray_toList]
        refine wpAnyH_take (i := 25) (v := undef) rfl (by kernel_rfl) (by kernel_rfl) (by kernel_rfl) (fun _ _ _ h => h) (Or.inr ⟨by rfl, rfl⟩) (by assumption) ?_
        try simp only [List.getElem_toArray, List.getElem_cons_zero, List.getElem_cons_succ, Act.put, List.setIfInBounds_toArray, List.set_cons_zero, List.set_cons_succ, Array.toArray_toList]
        refine wpAnyH_take (i := 26) (v := undef) rfl (by kernel_rfl) (by kernel_rfl) (by kernel_rfl) (fun _ _ _ h => h) (Or.inr ⟨by rfl, rfl⟩) (by assumption) ?_
        try simp only [List.getElem_toArray, List.getElem_cons_zero, List.getElem_cons_succ, Act.put, List.setIfInBounds_toArray, List.set_cons_zero, List.set_cons_succ, Array.toArray_toList]
        refine wpAnyH_ready (rs := [27]) (by kernel_rfl) (by simp) ?_
        refine AllReadyH.cons (i := 27) rfl (fun K hK => ?_) AllReadyH.nil
        go_simp
        refine hK.out _ _ (HS2.out _ hxd) (fun hHeld2 => ?_)
        clear hK K hHeld
        try simp only [List.getElem_toArray, List.getElem_cons_zero, List.getElem_cons_succ, Act.put, List.setIfInBounds_toArray, List.set_cons_zero, List.set_cons_succ, Array.toArray_toList]
        refine wpAnyH_take (i := 28) (v := undef) rfl (by kernel_rfl) (by kernel_rfl) (by kernel_rfl) (fun _ _ _ h => h) (Or.inr ⟨by rfl, rfl⟩) (by assumption) ?_
        try simp only [List.getElem_toArray, List.getElem_cons_zero, List.getElem_cons_succ, Act.put, List.setIfInBounds_toArray, List.set_cons_zero, List.set_cons_succ, Array.toArray_toList]
        refine wpAnyH_take (i := 29) (v := .bool true) rfl (by kernel_rfl) (by kernel_rfl) (by kernel_rfl) (fun _ _ _ h => h) (Or.inl ⟨by rfl, by (intro w hSw; (try dsimp only at hSw); go_simp; try (first | omega | (rw [IntKind.wrap_i64]; omega)))⟩) (by assumption) ?_
        try simp only [List.getElem_toArray, List.getElem_cons_zero, List.getElem_cons_succ, Act.put, List.setIfInBounds_toArray, List.set_cons_zero, List.set_cons_succ, Array.toArray_toList]
        refine wpAnyH_done (by kernel_rfl) ?_ _
        refine NoPanic.normal ?_
        go_wp2_with fail
        go_ret
        exact ⟨by rw [HF.out]; rfl, HXS.out.trans hxd⟩
      obtain ⟨k, hk⟩ : ∃ k : Nat, h.pol = ((k + 1 : Nat) : Int) := ⟨(h.pol - 1).toNat, by omega⟩
      have hk2 : k < len2 := by omega
      have hka : k < all.length := by rw [← HL2.out]; exact hk2
      rcases has with has | ⟨b2, o2, rfl, has⟩
      · exfalso; subst has; simp at hka
      obtain ⟨pq, lq, cq, qv, hrq, hvq, hqq⟩ := (has k hka).later HXS.out
      have HT4 := Lib.hid (show (hopP (all[k]).1 (all[k]).2 h.x h.out && traceL n0 all (l.drop (j + 1))) = traceL n0 all l from by
        rw [← hT3]
        congr 1
        unfold hopOk
        rw [hk, show (((k + 1 : Nat) : Int) - 1).toNat = k from by omega, List.getElem?_eq_getElem hka]
        simp; intro; omega)
      generalize all[k] = q at *
      have hrs := HRS.out
      rw [hk] at hrs e0 e1
      have HVAL := Lib.hid (show HopVal wS h.step (k + 1 : Nat) h.x h.out (.agg (hopCs h.step (k + 1 : Nat) h.x ov).toArray) from ⟨ov, rfl, HSL.out, hmx⟩)
      have HHOP := Lib.hid (fun W (hW : Ext wS W) => hop_any q.1 q.2 h.step (k + 1 : Nat) h.x h.out (.agg (hopCs h.step (k + 1 : Nat) h.x ov).toArray) (.agg #[.int .i8 q.1.op, .int .i8 q.1.fld, .int .u64 q.1.n, .slice pq lq cq, qv]) W ⟨ov, rfl, HSL.out.ext hW, hmx⟩ ⟨pq, lq, cq, qv, rfl, hvq.later hW.later, hqq.later hW.later⟩)
      have HSS := Lib.hid (fun W (hW : Ext wS W) => (show (fun W => W.rangeAt wn.heap.size 0 (hopCs h.step (k + 1 : Nat) h.x ov) ∧ W.cell? ⟨wn.heap.size, 1, none⟩ = some (.int .i64 (k + 1 : Nat)) ∧ W.cell? ⟨b, o + 1, none⟩ = some (.int .i64 (k + 1 : Nat)) ∧ W.rangeAt b2 (o2 + k * 5) [.int .i8 q.1.op, .int .i8 q.1.fld, .int .u64 q.1.n, .slice pq lq cq, qv]) W from ⟨World.rangeAt.later hW.later hrs, hW.later _ _ e1, hW.later _ _ e0, World.rangeAt.later hW.later hrq⟩))
      have hxd : Ext wS wS.drew := Ext.drew _
      have huH := HUS.out.1
      have hiH := HUS.out.2.1 h.step (k + 1 : Nat) h.x ov
      have hiP := HUS.out.2.2.1
      have huP := HUS.out.2.2.2
      have hadd : ((k : Int) + 1 - 1) = k := by omega
      clear hT3 hrq hvq hqq hrs e0 e1 h1 h2 hpl hpu hk has
      refine wp_region_noPanic ?_
      refine wp_region_held_drew (S := (fun W => W.rangeAt wn.heap.size 0 (hopCs h.step (k + 1 : Nat) h.x ov) ∧ W.cell? ⟨wn.heap.size, 1, none⟩ = some (.int .i64 (k + 1 : Nat)) ∧ W.cell? ⟨b, o + 1, none⟩ = some (.int .i64 (k + 1 : Nat)) ∧ W.rangeAt b2 (o2 + k * 5) [.int .i8 q.1.op, .int .i8 q.1.fld, .int .u64 q.1.n, .slice pq lq cq, qv])) (by kernel_rfl) (HSS.out _ hxd) (fun hHeld => ?_)
      refine wpAnyH_take (i := 0) (v := .pointer (some ⟨wn.heap.size, 1, none⟩)) rfl (by kernel_rfl) (by kernel_rfl) (by kernel_rfl) (fun _ _ _ h => h) (Or.inl ⟨by rfl, by (intro w hSw; (try dsimp only at hSw); go_simp; try (first | omega | (rw [IntKind.wrap_i64]; omega)))⟩) (by assumption) ?_
      try simp only [List.getElem_toArray, List.getElem_cons_zero, List.getElem_cons_succ, Act.put, List.setIfInBounds_toArray, List.set_cons_zero, List.set_cons_succ, Array.toArray_toList]
      refine wpAnyH_take (i := 1) (v := .int .i64 (k + 1 : Nat)) rfl (by kernel_rfl) (by kernel_rfl) (by kernel_rfl) (fun _ _ _ h => h) (Or.inl ⟨by rfl, by (intro w hSw; (try dsimp only at hSw); go_simp; try (first | omega | (rw [IntKind.wrap_i64]; omega)))⟩) (by assumption) ?_
      try simp only [List.getElem_toArray, List.getElem_cons_zero, List.getElem_cons_succ, Act.put, List.setIfInBounds_toArray, List.set_cons_zero, List.set_cons_succ, Array.toArray_toList]
      refine wpAnyH_take (i := 2) (v := .slice (some ⟨b, o, none⟩) len cap) rfl (by kernel_rfl) (by kernel_rfl) (by kernel_rfl) (fun _ _ _ h => h) (Or.inl ⟨by rfl, by (intro w hSw; (try dsimp only at hSw); go_simp; try (first | omega | (rw [IntKind.wrap_i64]; omega)))⟩) (by assumption) ?_
      try simp only [List.getElem_toArray, List.getElem_cons_zero, List.getElem_cons_succ, Act.put, List.setIfInBounds_toArray, List.set_cons_zero, List.set_cons_succ, Array.toArray_toList]
      refine wpAnyH_take (i := 3) (v := .pointer (some ⟨b, o, none⟩)) rfl (by kernel_rfl) (by kernel_rfl) (by kernel_rfl) (fun _ _ _ h => h) (Or.inl ⟨by rfl, by (intro w hSw; (try dsimp only at hSw); go_simp; try (first | omega | (rw [IntKind.wrap_i64]; omega)))⟩) (by assumption) ?_
      try simp only [List.getElem_toArray, List.getElem_cons_zero, List.getElem_cons_succ, Act.put, List.setIfInBounds_toArray, List.set_cons_zero, List.set_cons_succ, Array.toArray_toList]
      refine wpAnyH_take (i := 4) (v := .pointer (some ⟨b, o + 1, none⟩)) rfl (by kernel_rfl) (by kernel_rfl) (by kernel_rfl) (fun _ _ _ h => h) (Or.inl ⟨by rfl, by (intro w hSw; (try dsimp only at hSw); go_simp; try (first | omega | (rw [IntKind.wrap_i64]; omega)))⟩) (by assumption) ?_
      try simp only [List.getElem_toArray, List.getElem_cons_zero, List.getElem_cons_succ, Act.put, List.setIfInBounds_toArray, List.set_cons_zero, List.set_cons_succ, Array.toArray_toList]
      refine wpAnyH_take (i := 5) (v := .int .i64 (k + 1 : Nat)) rfl (by kernel_rfl) (by kernel_rfl) (by kernel_rfl) (fun _ _ _ h => h) (Or.inl ⟨by rfl, by (intro w hSw; (try dsimp only at hSw); go_simp; try (first | omega | (rw [IntKind.wrap_i64]; omega)))⟩) (by assumption) ?_
      try simp only [List.getElem_toArray, List.getElem_cons_zero, List.getElem_cons_succ, Act.put, List.setIfInBounds_toArray, List.set_cons_zero, List.set_cons_succ, Array.toArray_toList]
      refine wpAnyH_take (i := 6) (v := .bool false) rfl (by kernel_rfl) (by kernel_rfl) (by kernel_rfl) (fun _ _ _ h => h) (Or.inl ⟨by rfl, by (intro w hSw; (try dsimp only at hSw); go_simp; try (first | omega | (rw [IntKind.wrap_i64]; omega)))⟩) (by assumption) ?_
      try simp only [List.getElem_toArray, List.getElem_cons_zero, List.getElem_cons_succ, Act.put, List.setIfInBounds_toArray, List.set_cons_zero, List.set_cons_succ, Array.toArray_toList]
      refine wpAnyH_take (i := 7) (v := .bool false) rfl (by kernel_rfl) (by kernel_rfl) (by kernel_rfl) (fun _ _ _ h => h) (Or.inl ⟨by rfl, by (intro w hSw; (try dsimp only at hSw); go_simp; try (first | omega | (rw [IntKind.wrap_i64]; omega)))⟩) (by assumption) ?_
      try simp only [List.getElem_toArray, List.getElem_cons_zero, List.getElem_cons_succ, Act.put, List.setIfInBounds_toArray, List.set_cons_zero, List.set_cons_succ, Array.toArray_toList]
      refine wpAnyH_take (i := 8) (v := .pointer (some ⟨wn.heap.size, 1, none⟩)) rfl (by kernel_rfl) (by kernel_rfl) (by kernel_rfl) (fun _ _ _ h => h) (Or.inl ⟨by rfl, by (intro w hSw; (try dsimp only at hSw); go_simp; try (first | omega | (rw [IntKind.wrap_i64]; omega)))⟩) (by assumption) ?_
      try simp only [List.getElem_toArray, List.getElem_cons_zero, List.getElem_cons_succ, Act.put, List.setIfInBounds_toArray, List.set_cons_zero, List.set_cons_succ, Array.toArray_toList]
      refine wpAnyH_take (i := 9) (v := .int .i64 (k + 1 : Nat)) rfl (by kernel_rfl) (by kernel_rfl) (by kernel_rfl) (fun _ _ _ h => h) (Or.inl ⟨by rfl, by (intro w hSw; (try dsimp only at hSw); go_simp; try (first | omega | (rw [IntKind.wrap_i64]; omega)))⟩) (by assumption) ?_
      try simp only [List.getElem_toArray, List.getElem_cons_zero, List.getElem_cons_succ, Act.put, List.setIfInBounds_toArray, List.set_cons_zero, List.set_cons_succ, Array.toArray_toList]
      refine wpAnyH_take (i := 10) (v := .bool false) rfl (by kernel_rfl) (by kernel_rfl) (by kernel_rfl) (fun _ _ _ h => h) (Or.inl ⟨by rfl, by (intro w hSw; (try dsimp only at hSw); go_simp; try (first | omega | (rw [IntKind.wrap_i64]; omega)))⟩) (by assumption) ?_
      try simp only [List.getElem_toArray, List.getElem_cons_zero, List.getElem_cons_succ, Act.put, List.setIfInBounds_toArray, List.set_cons_zero, List.set_cons_succ, Array.toArray_toList]
      refine wpAnyH_take (i := 11) (v := .bool false) rfl (by kernel_rfl) (by kernel_rfl) (by kernel_rfl) (fun _ _ _ h => h) (Or.inl ⟨by rfl, by (intro w hSw; (try dsimp only at hSw); go_simp; try (first | omega | (rw [IntKind.wrap_i64]; omega)))⟩) (by assumption) ?_
      try simp only [List.getElem_toArray, List.getElem_cons_zero, List.getElem_cons_succ, Act.put, List.setIfInBounds_toArray, List.set_cons_zero, List.set_cons_succ, Array.toArray_toList]
      refine wpAnyH_take (i := 12) (v := .bool false) rfl (by kernel_rfl) (by kernel_rfl) (by kernel_rfl) (fun _ _ _ h => h) (Or.inl ⟨by rfl, by (intro w hSw; (try dsimp only at hSw); go_simp; try (first | omega | (rw [IntKind.wrap_i64]; omega)))⟩) (by assumption) ?_
      try simp only [List.getElem_toArray, List.getElem_cons_zero, List.getElem_cons_succ, Act.put, List.setIfInBounds_toArray, List.set_cons_zero, List.set_cons_succ, Array.toArray_toList]
      refine wpAnyH_take (i := 13) (v := .pointer (some ⟨wn.heap.size, 1, none⟩)) rfl (by kernel_rfl) (by kernel_rfl) (by kernel_rfl) (fun _ _ _ h => h) (Or.inl ⟨by rfl, by (intro w hSw; (try dsimp only at hSw); go_simp; try (first | omega | (rw [IntKind.wrap_i64]; omega)))⟩) (by assumption) ?_
      try simp only [List.getElem_toArray, List.getElem_cons_zero, List.getElem_cons_succ, Act.put, List.setIfInBounds_toArray, List.set_cons_zero, List.set_cons_succ, Array.toArray_toList]
      refine wpAnyH_take (i := 14) (v := .int .i64 (k + 1 : Nat)) rfl (by kernel_rfl) (by kernel_rfl) (by kernel_rfl) (fun _ _ _ h => h) (Or.inl ⟨by rfl, by (intro w hSw; (try dsimp only at hSw); go_simp; try (first | omega | (rw [IntKind.wrap_i64]; omega)))⟩) (by assumption) ?_
      try simp only [List.getElem_toArray, List.getElem_cons_zero, List.getElem_cons_succ, Act.put, List.setIfInBounds_toArray, List.set_cons_zero, List.set_cons_succ, Array.toArray_toList]
      refine wpAnyH_take (i := 15) (v := .slice (some ⟨b2, o2, none⟩) len2 cap2) rfl (by kernel_rfl) (by kernel_rfl) (by kernel_rfl) (fun _ _ _ h => h) (Or.inl ⟨by rfl, by (intro w hSw; (try dsimp only at hSw); go_simp; try (first | omega | (rw [IntKind.wrap_i64]; omega)))⟩) (by assumption) ?_
      try simp only [List.getElem_toArray, List.getElem_cons_zero, List.getElem_cons_succ, Act.put, List.setIfInBounds_toArray, List.set_cons_zero, List.set_cons_succ, Array.toArray_toList]
      refine wpAnyH_take (i := 16) (v := .int .i64 len2) rfl (by kernel_rfl) (by kernel_rfl) (by kernel_rfl) (fun _ _ _ h => h) (Or.inl ⟨by rfl, by (intro w hSw; (try dsimp only at hSw); go_simp; try (first | omega | (rw [IntKind.wrap_i64]; omega)))⟩) (by assumption) ?_
      try simp only [List.getElem_toArray, List.getElem_cons_zero, List.getElem_cons_succ, Act.put, List.setIfInBounds_toArray, List.set_cons_zero, List.set_cons_succ, Array.toArray_toList]
      refine wpAnyH_take (i := 17) (v := .bool false) rfl (by kernel_rfl) (by kernel_rfl) (by kernel_rfl) (fun _ _ _ h => h) (Or.inl ⟨by rfl, by (intro w hSw; (try dsimp only at hSw); go_simp; try (first | omega | (rw [IntKind.wrap_i64]; omega)))⟩) (by assumption) ?_
      try simp only [List.getElem_toArray, List.getElem_cons_zero, List.getElem_cons_succ, Act.put, List.setIfInBounds_toArray, List.set_cons_zero, List.set_cons_succ, Array.toArray_toList]
      refine wpAnyH_take (i := 18) (v := .bool false) rfl (by kernel_rfl) (by kernel_rfl) (by kernel_rfl) (fun _ _ _ h => h) (Or.inl ⟨by rfl, by (intro w hSw; (try dsimp only at hSw); go_simp; try (first | omega | (rw [IntKind.wrap_i64]; omega)))⟩) (by assumption) ?_
      try simp only [List.getElem_toArray, List.getElem_cons_zero, List.getElem_cons_succ, Act.put, List.setIfInBounds_toArray, List.set_cons_zero, List.set_cons_succ, Array.toArray_toList]
      refine wpAnyH_take (i := 19) (v := .bool false) rfl (by kernel_rfl) (by kernel_rfl) (by kernel_rfl) (fun _ _ _ h => h) (Or.inl ⟨by rfl, by (intro w hSw; (try dsimp only at hSw); go_simp; try (first | omega | (rw [IntKind.wrap_i64]; omega)))⟩) (by assumption) ?_
      try simp only [List.getElem_toArray, List.getElem_cons_zero, List.getElem_cons_succ, Act.put, List.setIfInBounds_toArray, List.set_cons_zero, List.set_cons_succ, Array.toArray_toList]
      refine wpAnyH_take (i := 20) (v := .agg (hopCs h.step (k + 1 : Nat) h.x ov).toArray) rfl (by kernel_rfl) (by kernel_rfl) (by kernel_rfl) (fun _ _ _ h => h) ?_ (by assumption) ?_
      · try simp only [List.getElem_toArray, List.getElem_cons_zero, List.getElem_cons_succ]
        exact yieldsIf_load_mid (by rfl) _ _ rfl (wn.heap.size) (0) rfl (hopCs h.step (k + 1 : Nat) h.x ov) _ (fun w hSw => hSw.1) huH rfl hiH
      try simp only [List.getElem_toArray, List.getElem_cons_zero, List.getElem_cons_succ, Act.put, List.setIfInBounds_toArray, List.set_cons_zero, List.set_cons_succ, Array.toArray_toList]
      refine wpAnyH_take (i := 21) (v := .slice (some ⟨b2, o2, none⟩) len2 cap2) rfl (by kernel_rfl) (by kernel_rfl) (by kernel_rfl) (fun _ _ _ h => h) (Or.inl ⟨by rfl, by (intro w hSw; (try dsimp only at hSw); go_simp; try (first | omega | (rw [IntKind.wrap_i64]; omega)))⟩) (by assumption) ?_
      try simp only [List.getElem_toArray, List.getElem_cons_zero, List.getElem_cons_succ, Act.put, List.setIfInBounds_toArray, List.set_cons_zero, List.set_cons_succ, Array.toArray_toList]
      refine wpAnyH_take (i := 22) (v := .pointer (some ⟨wn.heap.size, 1, none⟩)) rfl (by kernel_rfl) (by kernel_rfl) (by kernel_rfl) (fun _ _ _ h => h) (Or.inl ⟨by rfl, by (intro w hSw; (try dsimp only at hSw); go_simp; try (first | omega | (rw [IntKind.wrap_i64]; omega)))⟩) (by assumption) ?_
      try simp only [List.getElem_toArray, List.getElem_cons_zero, List.getElem_cons_succ, Act.put, List.setIfInBounds_toArray, List.set_cons_zero, List.set_cons_succ, Array.toArray_toList]
      refine wpAnyH_take (i := 23) (v := .int .i64 (k + 1 : Nat)) rfl (by kernel_rfl) (by kernel_rfl) (by kernel_rfl) (fun _ _ _ h => h) (Or.inl ⟨by rfl, by (intro w hSw; (try dsimp only at hSw); go_simp; try (first | omega | (rw [IntKind.wrap_i64]; omega)))⟩) (by assumption) ?_
      try simp only [List.getElem_toArray, List.getElem_cons_zero, List.getElem_cons_succ, Act.put, List.setIfInBounds_toArray, List.set_cons_zero, List.set_cons_succ, Array.toArray_toList]
      refine wpAnyH_take (i := 24) (v := .int .i64 k) rfl (by kernel_rfl) (by kernel_rfl) (by kernel_rfl) (fun _ _ _ h => h) (Or.inl ⟨by rfl, by (intro w hSw; (try dsimp only at hSw); go_simp; try (first | omega | (rw [IntKind.wrap_i64]; omega)))⟩) (by assumption) ?_
      try simp only [List.getElem_toArray, List.getElem_cons_zero, List.getElem_cons_succ, Act.put, List.setIfInBounds_toArray, List.set_cons_zero, List.set_cons_succ, Array.toArray_toList]
      refine wpAnyH_take (i := 25) (v := .pointer (some ⟨b2, o2 + k * 5, none⟩)) rfl (by kernel_rfl) (by kernel_rfl) (by kernel_rfl) (fun _ _ _ h => h) (Or.inl ⟨by rfl, by (intro w hSw; (try dsimp only at hSw); go_simp; try (first | omega | (rw [IntKind.wrap_i64]; omega)))⟩) (by assumption) ?_
      try simp only [List.getElem_toArray, List.getElem_cons_zero, List.getElem_cons_succ, Act.put, List.setIfInBounds_toArray, List.set_cons_zero, List.set_cons_succ, Array.toArray_toList]
      refine wpAnyH_take (i := 26) (v := .agg #[.int .i8 q.1.op, .int .i8 q.1.fld, .int .u64 q.1.n, .slice pq lq cq, qv]) rfl (by kernel_rfl) (by kernel_rfl) (by kernel_rfl) (fun _ _ _ h => h) ?_ (by assumption) ?_
      · try simp only [List.getElem_toArray, List.getElem_cons_zero, List.getElem_cons_succ]
        exact yieldsIf_load_mid (by rfl) _ _ rfl (b2) (o2 + k * 5) rfl [.int .i8 q.1.op, .int .i8 q.1.fld, .int .u64 q.1.n, .slice pq lq cq, qv] _ (fun w hSw => hSw.2.2.2) huP rfl hiP
      try simp only [List.getElem_toArray, List.getElem_cons_zero, List.getElem_cons_succ, Act.put, List.setIfInBounds_toArray, List.set_cons_zero, List.set_cons_succ, Array.toArray_toList]
      refine wpAnyH_ready (rs := [27]) (by kernel_rfl) (by simp) ?_
      refine AllReadyH.cons (i := 27) rfl (fun K hK => ?_) AllReadyH.nil
      go_simp
      go_at_call 10
      refine (HHOP.out _ hxd).mono ?_
      rintro e w5 ⟨rfl, hx5⟩
      refine hK.out _ _ (HSS.out _ (hxd.trans hx5)) (fun hHeld2 => ?_)
      clear hK K hHeld
      try simp only [List.getElem_toArray, List.getElem_cons_zero, List.getElem_cons_succ, Act.put, List.setIfInBounds_toArray, List.set_cons_zero, List.set_cons_succ, Array.toArray_toList]
      refine wpAnyH_take (i := 28) (v := .bool (!hopP q.1 q.2 h.x h.out)) rfl (by kernel_rfl) (by kernel_rfl) (by kernel_rfl) (fun _ _ _ h => h) (Or.inl ⟨by rfl, by (intro w hSw; (try dsimp only at hSw); go_simp; try (first | omega | (rw [IntKind.wrap_i64]; omega)))⟩) (by assumption) ?_
      try simp only [List.getElem_toArray, List.getElem_cons_zero, List.getElem_cons_succ, Act.put, List.setIfInBounds_toArray, List.set_cons_zero, List.set_cons_succ, Array.toArray_toList]
      refine wpAnyH_take (i := 29) (v := .bool (!hopP q.1 q.2 h.x h.out)) rfl (by kernel_rfl) (by kernel_rfl) (by kernel_rfl) (fun _ _ _ h => h) (Or.inl ⟨by rfl, by (intro w hSw; (try dsimp only at hSw); go_simp; try (first | omega | (rw [IntKind.wrap_i64]; omega)))⟩) (by assumption) ?_
      try simp only [List.getElem_toArray, List.getElem_cons_zero, List.getElem_cons_succ, Act.put, List.setIfInBounds_toArray, List.set_cons_zero, List.set_cons_succ, Array.toArray_toList]
      refine wpAnyH_done (by kernel_rfl) ?_ _
      refine NoPanic.normal ?_
      cases hq : hopP q.1 q.2 h.x h.out with
      | false =>
        have HF := Lib.hid (show traceP l all = false from by rw [HP.out, ← HT4.out, hq]; rfl)
        clear hq
        go_wp2_with fail
        go_ret
        exact ⟨by rw [HF.out]; rfl, HXS.out.trans (hxd.trans hx5)⟩
      | true =>
        have HT5 := Lib.hid (show traceL n0 all (l.drop (j + 1)) = traceL n0 all l from by rw [← HT4.out, hq]; rfl)
        clear hq
        go_wp2_with fail
        go_roundw
        case rel => exact ⟨j + 1, by omega, by go_num, HT5.out, HXS.out.trans (hxd.trans hx5)⟩
        case measure => simp [intOf]; omega
    · have HF := Lib.hid (show traceP l all = true from by
        rw [HP.out, ← hT.out, List.drop_of_length_le (by have := HL.out; omega), traceL])
      clear hT
      go_wp2_with fail
      go_ret
      exact ⟨by rw [HF.out]; rfl, hx.out⟩
end Go.Proofs.Ytddeelepaiklgaa
/- judge.over: the other end of a wire. -/
namespace Go.Proofs.Ytddeelepaiklgaa
open Go.RowKit Go.Maps
set_option linter.unusedSimpArgs false

structure WireD where
  a : Int
  ap : Int
  b : Int
  bp : Int
def WireD.cs (x : WireD) : List Value := [.int .u16 x.a, .int .u16 x.ap, .int .u16 x.b, .int .u16 x.bp]
def WAt (w : World) (x : WireD) (b o : Nat) : Prop := w.rangeAt b o x.cs ∧ (0 ≤ x.a ∧ x.a ≤ 65535) ∧ (0 ≤ x.ap ∧ x.ap ≤ 65535) ∧ (0 ≤ x.b ∧ x.b ≤ 65535) ∧ (0 ≤ x.bp ∧ x.bp ≤ 65535)
def overP (s p : Int) : List WireD → Option (Int × Int)
  | [] => none
  | x :: xs => if x.a = s ∧ x.ap = p then some (x.b, x.bp) else if x.b = s ∧ x.bp = p then some (x.a, x.ap) else overP s p xs
def spotOf (r : Option (Int × Int)) : Value := .agg #[.int .u16 ((r.map (·.1)).getD 0), .int .u16 ((r.map (·.2)).getD 0)]

set_option maxHeartbeats 4000000 in
set_option maxRecDepth 100000 in
theorem over_any (l : List WireD) (lv : Value) (s p : Int) (w : World) (hl : SlOf WAt 4 w l lv) :
    Calls Try.prog 27 #[lv, .agg #[.int .u16 s, .int .u16 p]] w fun e w' => e = .returned (.tuple #[spotOf (overP s p l), .bool (overP s p l).isSome]) ∧ Ext w w' := by
  obtain ⟨pl, len, cap, rfl, hlen, hlc, hcm, hls⟩ := hl
  have HL := Lib.hid hlen
  have HLS := Lib.hid (show l = [] ∨ ∃ b o, pl = some ⟨b, o, none⟩ ∧ ∀ W, Ext w W → ∀ i (h : i < l.length), W.rangeAt b (o + i * 4) (l[i]).cs from
    hls.imp id fun ⟨b, o, hp, hr⟩ => ⟨b, o, hp, fun W hW i h => World.rangeAt.later hW.later (hr i h).1⟩)
  obtain ⟨wA, hA⟩ : ∃ W : World, w.alloc (.cells #[.int .u16 s, .int .u16 p] 58) = W := ⟨_, rfl⟩
  have xA : Ext w wA := hA ▸ Ext.alloc _ _
  have sA : wA.heap.size = w.heap.size + 1 := by rw [← hA, World.size_alloc]
  obtain ⟨wB, hB⟩ : ∃ W : World, wA.alloc (.cells #[.int .u16 0, .int .u16 0] 58) = W := ⟨_, rfl⟩
  have xB : Ext wA wB := hB ▸ Ext.alloc _ _
  have sB : wB.heap.size = w.heap.size + 2 := by rw [← hB, World.size_alloc, sA]
  have a0 : wA.cell? ⟨w.heap.size, 0, none⟩ = some (.int .u16 s) := by rw [← hA]; simp [go_sem]
  have a1 : wA.cell? ⟨w.heap.size, 1, none⟩ = some (.int .u16 p) := by rw [← hA]; simp [go_sem]
  have b0 : wB.cell? ⟨w.heap.size + 1, 0, none⟩ = some (.int .u16 0) := by rw [← hB, ← sA]; simp [go_sem]
  have b1 : wB.cell? ⟨w.heap.size + 1, 1, none⟩ = some (.int .u16 0) := by rw [← hB, ← sA]; simp [go_sem]
  have f0 : wB.frozen? ⟨w.heap.size + 1, 0, none⟩ = false := by rw [← hB, ← sA]; simp [go_sem]
  have f1 : wB.frozen? ⟨w.heap.size + 1, 1, none⟩ = false := by rw [← hB, ← sA]; simp [go_sem]
  have HC := Lib.hid (fun W (hW : Ext wB W) => show W.cell? ⟨w.heap.size, 0, none⟩ = some (.int .u16 s) ∧ W.cell? ⟨w.heap.size, 1, none⟩ = some (.int .u16 p) ∧ W.cell? ⟨w.heap.size + 1, 0, none⟩ = some (.int .u16 0) ∧ W.cell? ⟨w.heap.size + 1, 1, none⟩ = some (.int .u16 0) ∧ W.frozen? ⟨w.heap.size + 1, 0, none⟩ = false ∧ W.frozen? ⟨w.heap.size + 1, 1, none⟩ = false from
    ⟨hW.later _ _ (xB.later _ _ a0), hW.later _ _ (xB.later _ _ a1), hW.later _ _ b0, hW.later _ _ b1, by rw [Below.frozen hW (World.block_lt_of_cell? wB _ b0)]; exact f0, by rw [Below.frozen hW (World.block_lt_of_cell? wB _ b1)]; exact f1⟩)
  have HX := Lib.hid (xA.trans xB)
  have HEQ := Lib.hid (show w.alloc (.cells #[.int .u16 s, .int .u16 p] 58) = wA ∧ wA.alloc (.cells #[.int .u16 0, .int .u16 0] 58) = wB from ⟨hA, hB⟩)
  clear a0 a1 b0 b1 f0 f1 hA hB xA xB hls hlen
  go_enter Try.func27, Try.ntmps27
  go_upto_region 1 with fail
  rw [HEQ.out.1, HEQ.out.2]
  try rw [sA]
  clear HEQ
  go_wp2_with fail
  go_loopw [10] (fun i wr => ∃ j : Nat, j ≤ len ∧ i = .int .i64 j ∧ Hid (overP s p (l.drop j) = overP s p l) ∧ Hid (Ext wB wr)) (fun i _ => len - (intOf i).toNat)
  case atStart => exact ⟨0, Nat.zero_le _, rfl, rfl, Ext.refl _⟩
  case round =>
    obtain ⟨wn, rfl⟩ : ∃ wn : World, wn = wr := ⟨_, rfl⟩
    obtain ⟨j, hj, rfl, hT, hx⟩ := hrel
    by_cases hlt : j < len
    · have hjl : j < l.length := by rw [← HL.out]; exact hlt
      rcases HLS.out with hls | ⟨b, o, rfl, hls⟩
      · exfalso; subst hls; simp at hjl
      have hr := hls wn (HX.out.trans hx.out) j hjl
      have hT2 := hT.out
      rw [drop_get hjl, overP] at hT2
      generalize l[j] = x at *
      have d0 : wn.cell? ⟨b, o + j * 4, none⟩ = some (.int .u16 x.a) := by simpa using hr 0 _ rfl
      have d1 : wn.cell? ⟨b, o + j * 4 + 1, none⟩ = some (.int .u16 x.ap) := by simpa using hr 1 _ rfl
      have d2 : wn.cell? ⟨b, o + j * 4 + 2, none⟩ = some (.int .u16 x.b) := by simpa using hr 2 _ rfl
      have d3 : wn.cell? ⟨b, o + j * 4 + 3, none⟩ = some (.int .u16 x.bp) := by simpa using hr 3 _ rfl
      obtain ⟨wS, hS⟩ : ∃ W : World, wn.alloc (.cells #[.int .u16 x.a, .int .u16 x.ap, .int .u16 x.b, .int .u16 x.bp] 60) = W := ⟨_, rfl⟩
      have xS : Ext wn wS := hS ▸ Ext.alloc _ _
      have e0 : wS.cell? ⟨wn.heap.size, 0, none⟩ = some (.int .u16 x.a) := by rw [← hS]; simp [go_sem]
      have e1 : wS.cell? ⟨wn.heap.size, 1, none⟩ = some (.int .u16 x.ap) := by rw [← hS]; simp [go_sem]
      have e2 : wS.cell? ⟨wn.heap.size, 2, none⟩ = some (.int .u16 x.b) := by rw [← hS]; simp [go_sem]
      have e3 : wS.cell? ⟨wn.heap.size, 3, none⟩ = some (.int .u16 x.bp) := by rw [← hS]; simp [go_sem]
      have hxS := hx.out.trans xS
      obtain ⟨c0, c1, b0, b1, f0, f1⟩ := HC.out _ hxS
      have HEQ := Lib.hid hS
      have HXS := Lib.hid hxS
      clear hr hS xS hT hxS
      go_upto_region 4 with (first
        | (refine wpList_store_new rfl 60 _ _ rfl _ #[.int .u16 x.a, .int .u16 x.ap, .int .u16 x.b, .int .u16 x.bp] rfl rfl (by kernel_rfl) rfl (by rfl) ?_))
      rw [HEQ.out]
      try simp only [Act.put]
      clear HEQ d0 d1 d2 d3
      by_cases h1 : x.a = s ∧ x.ap = p
      · have HF := Lib.hid (show overP s p l = some (x.b, x.bp) from by rw [← hT2, if_pos h1])
        obtain ⟨h1a, h1b⟩ := h1
        rw [h1a] at e0
        rw [h1b] at e1
        clear hT2
        go_wp2_with fail
        have k0 : ((wS.setCell ⟨w.heap.size + 1, 0, none⟩ (.int .u16 x.b)).setCell ⟨w.heap.size + 1, 1, none⟩ (.int .u16 x.bp)).cell? ⟨w.heap.size + 1, 0, none⟩ = some (.int .u16 x.b) := by
          rw [World.cell?_setCell_other _ _ _ _ (fun e => by injection e with _ e2; omega)]; exact World.cell?_setCell_same wS ⟨w.heap.size + 1, 0, none⟩ _ b0
        have k1 : ((wS.setCell ⟨w.heap.size + 1, 0, none⟩ (.int .u16 x.b)).setCell ⟨w.heap.size + 1, 1, none⟩ (.int .u16 x.bp)).cell? ⟨w.heap.size + 1, 1, none⟩ = some (.int .u16 x.bp) :=
          World.cell?_setCell_same _ ⟨w.heap.size + 1, 1, none⟩ _ (by rw [World.cell?_setCell_other _ _ _ _ (fun e => by injection e with _ e2; omega)]; exact b1)
        have hxe : Ext w ((wS.setCell ⟨w.heap.size + 1, 0, none⟩ (.int .u16 x.b)).setCell ⟨w.heap.size + 1, 1, none⟩ (.int .u16 x.bp)) := ((HX.out.trans HXS.out).andSet (by show w.heap.size ≤ w.heap.size + 1; omega) _).andSet (by show w.heap.size ≤ w.heap.size + 1; omega) _
        refine bodyPost_ret_by (v := .tuple #[spotOf (overP s p l), .bool (overP s p l).isSome]) ?_ rfl ⟨rfl, hxe⟩
        rw [results_cell_tmp rfl, HF.out]
        generalize ((wS.setCell ⟨w.heap.size + 1, 0, none⟩ (.int .u16 x.b)).setCell ⟨w.heap.size + 1, 1, none⟩ (.int .u16 x.bp)) = wE at *
        go_simp
        try rfl
      · have hT3 : (if x.b = s ∧ x.bp = p then some (x.a, x.ap) else overP s p (l.drop (j + 1))) = overP s p l := by rw [← hT2, if_neg h1]
        clear hT2
        have hA : (¬ s = x.a) ∨ (x.a = s ∧ ¬ p = x.ap) := by
          by_cases q : x.a = s
          · exact .inr ⟨q, fun e => h1 ⟨q, e.symm⟩⟩
          · exact .inl (fun e => q e.symm)
        by_cases h2 : x.b = s ∧ x.bp = p
        · have HF := Lib.hid (show overP s p l = some (x.a, x.ap) from by rw [← hT3, if_pos h2])
          obtain ⟨h2a, h2b⟩ := h2
          rw [h2a] at e2
          rw [h2b] at e3
          clear hT3 h1
          rcases hA with hA | ⟨hA, hA'⟩
          · clear h2a h2b
            go_wp2_with fail
            have k0 : ((wS.setCell ⟨w.heap.size + 1, 0, none⟩ (.int .u16 x.a)).setCell ⟨w.heap.size + 1, 1, none⟩ (.int .u16 x.ap)).cell? ⟨w.heap.size + 1, 0, none⟩ = some (.int .u16 x.a) := by
              rw [World.cell?_setCell_other _ _ _ _ (fun e => by injection e with _ e2; omega)]; exact World.cell?_setCell_same wS ⟨w.heap.size + 1, 0, none⟩ _ b0
            have k1 : ((wS.setCell ⟨w.heap.size + 1, 0, none⟩ (.int .u16 x.a)).setCell ⟨w.heap.size + 1, 1, none⟩ (.int .u16 x.ap)).cell? ⟨w.heap.size + 1, 1, none⟩ = some (.int .u16 x.ap) :=
              World.cell?_setCell_same _ ⟨w.heap.size + 1, 1, none⟩ _ (by rw [World.cell?_setCell_other _ _ _ _ (fun e => by injection e with _ e2; omega)]; exact b1)
            have hxe : Ext w ((wS.setCell ⟨w.heap.size + 1, 0, none⟩ (.int .u16 x.a)).setCell ⟨w.heap.size + 1, 1, none⟩ (.int .u16 x.ap)) := ((HX.out.trans HXS.out).andSet (by show w.heap.size ≤ w.heap.size + 1; omega) _).andSet (by show w.heap.size ≤ w.heap.size + 1; omega) _
            refine bodyPost_ret_by (v := .tuple #[spotOf (overP s p l), .bool (overP s p l).isSome]) ?_ rfl ⟨rfl, hxe⟩
            rw [results_cell_tmp rfl, HF.out]
            generalize ((wS.setCell ⟨w.heap.size + 1, 0, none⟩ (.int .u16 x.a)).setCell ⟨w.heap.size + 1, 1, none⟩ (.int .u16 x.ap)) = wE at *
            go_simp
            try rfl
          · rw [hA] at e0
            rw [show x.a = s from hA] at HF
            clear h2a h2b hA
            go_wp2_with fail
            have k0 : ((wS.setCell ⟨w.heap.size + 1, 0, none⟩ (.int .u16 s)).setCell ⟨w.heap.size + 1, 1, none⟩ (.int .u16 x.ap)).cell? ⟨w.heap.size + 1, 0, none⟩ = some (.int .u16 s) := by
              rw [World.cell?_setCell_other _ _ _ _ (fun e => by injection e with _ e2; omega)]; exact World.cell?_setCell_same wS ⟨w.heap.size + 1, 0, none⟩ _ b0
            have k1 : ((wS.setCell ⟨w.heap.size + 1, 0, none⟩ (.int .u16 s)).setCell ⟨w.heap.size + 1, 1, none⟩ (.int .u16 x.ap)).cell? ⟨w.heap.size + 1, 1, none⟩ = some (.int .u16 x.ap) :=
              World.cell?_setCell_same _ ⟨w.heap.size + 1, 1, none⟩ _ (by rw [World.cell?_setCell_other _ _ _ _ (fun e => by injection e with _ e2; omega)]; exact b1)
            have hxe : Ext w ((wS.setCell ⟨w.heap.size + 1, 0, none⟩ (.int .u16 s)).setCell ⟨w.heap.size + 1, 1, none⟩ (.int .u16 x.ap)) := ((HX.out.trans HXS.out).andSet (by show w.heap.size ≤ w.heap.size + 1; omega) _).andSet (by show w.heap.size ≤ w.heap.size + 1; omega) _
            refine bodyPost_ret_by (v := .tuple #[spotOf (overP s p l), .bool (overP s p l).isSome]) ?_ rfl ⟨rfl, hxe⟩
            rw [results_cell_tmp rfl, HF.out]
            generalize ((wS.setCell ⟨w.heap.size + 1, 0, none⟩ (.int .u16 s)).setCell ⟨w.heap.size + 1, 1, none⟩ (.int .u16 x.ap)) = wE at *
            go_simp
            try rfl
        · have HT := Lib.hid (show overP s p (l.drop (j + 1)) = overP s p l from by rw [← hT3, if_neg h2])
          have hB : (¬ s = x.b) ∨ (x.b = s ∧ ¬ p = x.bp) := by
            by_cases q : x.b = s
            · exact .inr ⟨q, fun e => h2 ⟨q, e.symm⟩⟩
            · exact .inl (fun e => q e.symm)
          clear hT3 h1 h2
          rcases hA with hA | ⟨hA, hA'⟩ <;> rcases hB with hB | ⟨hB, hB'⟩
          · go_wp2_with fail
            go_roundw
            case rel => exact ⟨j + 1, by omega, by go_num, HT.out, HXS.out⟩
            case measure => simp [intOf]; omega
          · rw [hB] at e2
            clear hB
            go_wp2_with fail
            go_roundw
            case rel => exact ⟨j + 1, by omega, by go_num, HT.out, HXS.out⟩
            case measure => simp [intOf]; omega
          · rw [hA] at e0
            clear hA
            go_wp2_with fail
            go_roundw
            case rel => exact ⟨j + 1, by omega, by go_num, HT.out, HXS.out⟩
            case measure => simp [intOf]; omega
          · rw [hA] at e0
            rw [hB] at e2
            clear hA hB
            go_wp2_with fail
            go_roundw
            case rel => exact ⟨j + 1, by omega, by go_num, HT.out, HXS.out⟩
            case measure => simp [intOf]; omega
    · have HF := Lib.hid (show overP s p l = none from by
        rw [← hT.out, List.drop_of_length_le (by have := HL.out; omega), overP])
      obtain ⟨c0, c1, b0, b1, f0, f1⟩ := HC.out _ hx.out
      clear hT
      go_wp2_with fail
      have k0 : ((wn.setCell ⟨w.heap.size + 1, 0, none⟩ (.int .u16 0)).setCell ⟨w.heap.size + 1, 1, none⟩ (.int .u16 0)).cell? ⟨w.heap.size + 1, 0, none⟩ = some (.int .u16 0) := by
        rw [World.cell?_setCell_other _ _ _ _ (fun e => by injection e with _ e2; omega)]; exact World.cell?_setCell_same wn ⟨w.heap.size + 1, 0, none⟩ _ b0
      have k1 : ((wn.setCell ⟨w.heap.size + 1, 0, none⟩ (.int .u16 0)).setCell ⟨w.heap.size + 1, 1, none⟩ (.int .u16 0)).cell? ⟨w.heap.size + 1, 1, none⟩ = some (.int .u16 0) :=
        World.cell?_setCell_same _ ⟨w.heap.size + 1, 1, none⟩ _ (by rw [World.cell?_setCell_other _ _ _ _ (fun e => by injection e with _ e2; omega)]; exact b1)
      have hxe : Ext w ((wn.setCell ⟨w.heap.size + 1, 0, none⟩ (.int .u16 0)).setCell ⟨w.heap.size + 1, 1, none⟩ (.int .u16 0)) := ((HX.out.trans hx.out).andSet (by show w.heap.size ≤ w.heap.size + 1; omega) _).andSet (by show w.heap.size ≤ w.heap.size + 1; omega) _
      refine bodyPost_ret_by (v := .tuple #[spotOf (overP s p l), .bool (overP s p l).isSome]) ?_ rfl ⟨rfl, hxe⟩
      rw [results_cell_tmp rfl, HF.out]
      generalize ((wn.setCell ⟨w.heap.size + 1, 0, none⟩ (.int .u16 0)).setCell ⟨w.heap.size + 1, 1, none⟩ (.int .u16 0)) = wE at *
      go_simp
      try rfl
end Go.Proofs.Ytddeelepaiklgaa
