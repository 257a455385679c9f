/- policy.name: may a query bear it. -/
import Derived.Test.YtddeelepaiklgaaBase
import Derived.Laws.IdiomStrings
import Derived.Laws.BitsAllLaws
namespace Go.Proofs.Ytddeelepaiklgaa
open Go.RowKit

def nameC (i c : Nat) : Bool := decide (c = 95) || (decide (97 ≤ c ||| 32) && decide (c ||| 32 ≤ 122)) || (decide (0 < i) && (decide (48 ≤ c) && decide (c ≤ 57)))
def nameL : Nat → List UInt8 → Bool
  | _, [] => true
  | i, c :: cs => nameC i c.toNat && nameL (i + 1) cs
def nameB (s : ByteArray) : Bool := decide (s.size ≠ 0) && (decide (s.size ≤ 32) && nameL 0 s.data.toList)

set_option maxHeartbeats 2000000 in
set_option maxRecDepth 100000 in
theorem name_any (s : ByteArray) (w : World) :
    Calls Try.prog 39 #[.string s] w fun e w' => e = .returned (.bool (nameB s)) ∧ Ext w w' := by
  by_cases h0 : s.size = 0
  · have hs : s = ⟨#[]⟩ := ByteArray.ext (Array.eq_empty_of_size_eq_zero h0)
    subst hs
    go_enter Try.func39, Try.ntmps39
    go_wp2_with fail
    go_ret
    exact ⟨rfl, Ext.refl _⟩
  have hne : s ≠ ⟨#[]⟩ := fun e => h0 (by rw [e]; rfl)
  have h0'' := h0
  have hie : s.toList.isEmpty = false := by
    rw [ByteArray.toList_eq]
    cases hl : s.data.toList with
    | nil => exact absurd (by rw [ByteArray.size, ← Array.length_toList, hl]; rfl) h0
    | cons _ _ => rfl
  have h0' : ¬ s.toList = [] := fun e => by rw [e] at hie; cases hie
  by_cases h32 : s.size ≤ 32
  · have HF := Lib.hid (show nameB s = nameL 0 s.data.toList from by simp [nameB, h0, h32])
    have hconv := run_bytes_of_string (P := Try.prog) w 9 112 5 s Try.underlying9 Try.underlying112 Try.underlying5
    have HB := Lib.hid (fun j (hj : j < s.data.size) => show (w.drew.alloc (.cells (bytesRow s (grownCap w s.size 0 5)) 5 ((bytesRow s (grownCap w s.size 0 5)).size, (bytesRow s (grownCap w s.size 0 5)).size + 1))).cell? ⟨w.heap.size, j, none⟩ = some (.int .u8 (s.data[j].toNat : Int)) from by
      have := World.cell?_alloc_mark w.drew (bytesRow s (grownCap w s.size 0 5)) 5 ((bytesRow s (grownCap w s.size 0 5)).size, (bytesRow s (grownCap w s.size 0 5)).size + 1) j
      rw [bytesRow_at s _ j hj] at this
      exact this)
    have HX := Lib.hid (show Ext w (w.drew.alloc (.cells (bytesRow s (grownCap w s.size 0 5)) 5 ((bytesRow s (grownCap w s.size 0 5)).size, (bytesRow s (grownCap w s.size 0 5)).size + 1))) from (Ext.drew w).andAlloc _)
    generalize w.drew.alloc (.cells (bytesRow s (grownCap w s.size 0 5)) 5 ((bytesRow s (grownCap w s.size 0 5)).size, (bytesRow s (grownCap w s.size 0 5)).size + 1)) = wB at *
    generalize grownCap w s.size 0 5 = cap at *
    clear h0 hne h0''
    go_enter Try.func39, Try.ntmps39
    go_wp2_with fail
    go_loopw [15] (fun i wr => ∃ (j : Nat), j ≤ s.size ∧ i = .int .i64 j ∧ Hid (wr = wB) ∧ Hid (nameL j (s.data.toList.drop j) = nameL 0 s.data.toList)) (fun i _ => s.size - (intOf i).toNat)
    case atStart => exact ⟨0, Nat.zero_le _, rfl, rfl, rfl⟩
    case round =>
      obtain ⟨j, hj, rfl, hw, hR⟩ := hrel
      have hw' := hw.out
      subst hw'
      clear hw
      by_cases hlt : j < s.size
      · have hjd : j < s.data.size := hlt
        have hc := HB.out j hjd
        have hR2 : (nameC j (s.data[j].toNat) && nameL (j + 1) (s.data.toList.drop (j + 1))) = nameL 0 s.data.toList := by
          have := hR.out
          rw [List.drop_eq_getElem_cons (by simpa using hjd), nameL, Array.getElem_toList] at this
          exact this
        have hc256 : s.data[j].toNat < 256 := UInt8.toNat_lt _
        generalize s.data[j].toNat = c at *
        have hor : bits BinOp.or IntKind.u8 (c : Int) 32 = ((c ||| 32 : Nat) : Int) := u8_or_nat c 32 hc256 (by omega)
        have ho256 : c ||| 32 < 256 := Nat.or_lt_two_pow (n := 8) hc256 (by omega)
        have HNC := Lib.hid (show nameC j c = (decide (c = 95) || (decide (97 ≤ c ||| 32) && decide (c ||| 32 ≤ 122)) || (decide (0 < j) && (decide (48 ≤ c) && decide (c ≤ 57)))) from rfl)
        generalize c ||| 32 = o at *
        have HR2 := Lib.hid hR2
        have HFT := Lib.hid (fun (h : nameC j c = true) => show nameL (j + 1) (s.data.toList.drop (j + 1)) = nameL 0 s.data.toList by rw [← HR2.out, h, Bool.true_and])
        have HFF := Lib.hid (fun (h : nameC j c = false) => show nameB s = false by rw [HF.out, ← HR2.out, h, Bool.false_and])
        clear hR hR2
        by_cases h95 : c = 95
        · have HT := Lib.hid (show nameC j c = true from by rw [HNC.out]; simp [h95])
          subst h95
          go_wp2_with fail
          go_roundw
          case rel => exact ⟨j + 1, by omega, by go_num, True.intro, HFT.out HT.out⟩
          case measure => simp [intOf]; omega
        by_cases hl : 97 ≤ o ∧ o ≤ 122
        · obtain ⟨h97, h122⟩ := hl
          have HT := Lib.hid (show nameC j c = true from by rw [HNC.out]; simp [h97, h122])
          go_wp2_with fail
          go_roundw
          case rel => exact ⟨j + 1, by omega, by go_num, True.intro, HFT.out HT.out⟩
          case measure => simp [intOf]; omega
        by_cases hd : 0 < j ∧ 48 ≤ c ∧ c ≤ 57
        · obtain ⟨h1, h48, h57⟩ := hd
          have HT := Lib.hid (show nameC j c = true from by rw [HNC.out]; simp [h1, h48, h57])
          by_cases h97 : 97 ≤ o
          · have h122 : ¬ o ≤ 122 := fun h => hl ⟨h97, h⟩
            clear hl
            go_wp2_with fail
            go_roundw
            case rel => exact ⟨j + 1, by omega, by go_num, True.intro, HFT.out HT.out⟩
            case measure => simp [intOf]; omega
          · clear hl
            go_wp2_with fail
            go_roundw
            case rel => exact ⟨j + 1, by omega, by go_num, True.intro, HFT.out HT.out⟩
            case measure => simp [intOf]; omega
        · have HT := Lib.hid (show nameC j c = false from by
            rw [HNC.out, Bool.eq_false_iff]
            intro h
            simp only [Bool.or_eq_true, Bool.and_eq_true, decide_eq_true_eq] at h
            rcases h with (h | h) | h
            · exact h95 h
            · exact hl h
            · exact hd h)
          go_wp2_with fail
          all_goals first
            | (exfalso; omega)
            | (go_ret; exact ⟨by rw [HFF.out HT.out]; rfl, HX.out⟩)
      · have HE := Lib.hid (show nameB s = true from by
          rw [HF.out, ← hR.out, List.drop_of_length_le (by simp; exact Nat.le_of_not_lt hlt), nameL])
        clear hR
        go_wp2_with fail
        go_ret
        exact ⟨by rw [HE.out]; rfl, HX.out⟩
  · have HF := Lib.hid (show nameB s = false from by simp [nameB, h0, h32])
    go_enter Try.func39, Try.ntmps39
    go_wp2_with fail
    go_ret
    exact ⟨by rw [HF.out]; rfl, Ext.refl _⟩
end Go.Proofs.Ytddeelepaiklgaa
