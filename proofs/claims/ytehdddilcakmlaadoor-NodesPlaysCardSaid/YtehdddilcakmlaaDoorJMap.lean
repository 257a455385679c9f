/- m[k]-- and m[k]++: the entry found or made, the store into it. -/
import Derived.Test.YtehdddilcakmlaaDoorMap
import Derived.WideKeyEntry
namespace Go.Proofs.YtehdddilcakmlaaDoor
open Go.RowKit Go.Maps Go.ChangeMaps

section
variable {P : Program} {k : TypeId} {κ α : Type} [DecidableEq κ] {kv : κ → Value} {vv : α → Value}

theorem look_store (x : κ) (a : α) : ∀ (l : List (κ × α)), look x (store x a l) = some a
  | [] => by simp [store, look]
  | p :: r => by
    simp only [store]
    split
    · simp [look]
    · rename_i hne; simp only [look, if_neg hne]; exact look_store x a r
theorem look_other {x y : κ} (a : α) (h : y ≠ x) : ∀ (l : List (κ × α)), look y (store x a l) = look y l
  | [] => by simp [store, look, Ne.symm h]
  | p :: r => by
    simp only [store]
    split
    · rename_i he; simp [look, he, Ne.symm h]
    · simp only [look, look_other a h r]

theorem MapRaw.setB {w : World} {b : Nat} {es : Array MapEntry} {c : Nat} {m : List (Value × Value)} (h : MapRaw (setBlock w b (.map es c)) b m) (hb : b < w.heap.size) (w2 : World) (hb2 : b < w2.heap.size) : MapRaw (setBlock w2 b (.map es c)) b m := by
  refine MapRaw.kept h ?_
  simp [setBlock, hb, hb2]

theorem grown_setB (w : World) (b : Nat) (o : Obj) : w.grownBy (setBlock w b o) (some b) := ⟨rfl, rfl, rfl, by simp [setBlock], fun i _ hne => by
  have : b ≠ i := fun e => hne (by rw [e])
  simp [setBlock, this]⟩
theorem grown_trans {a b c : World} {o : Option Nat} (h : a.grownBy b o) (g : b.grownBy c o) : a.grownBy c o :=
  ⟨g.os.trans h.os, g.tape.trans h.tape, g.output.trans h.output, Nat.le_trans h.size g.size, fun i hi hn => (g.block i (Nat.lt_of_lt_of_le hi h.size) hn).trans (h.block i hi hn)⟩

/-- m[k] for a change: the entry is made where there is none; then the store -/
theorem run_entry_of (K : Coded P k kv) {t e : TypeId} (ht : P.underlying t = some (.map k e)) {w : World} {b : Nat} {l : List (κ × α)} (hm : MapOf w kv vv b l) (hn : (l.map (·.1)).Nodup) (x : κ) (z : α) (hz : ∀ u : World, (zeroValue e).run P u = .ok (vv z) u) :
    ∃ (st : Nat) (w1 : World), (Instr.mapEntry t (.map (some b)) (kv x)).run P w = .ok (.tuple #[vv ((look x l).getD z), .int .i64 st]) w1 ∧
      (∃ l1, MapOf w1 kv vv b l1 ∧ (l1.map (·.1)).Nodup ∧ (look x l1).getD z = (look x l).getD z) ∧ w.grownBy w1 (some b) ∧
      ∀ a : α, ∃ w2, (Instr.entryStore t (.map (some b)) (.int .i64 st) (vv a)).run P w1 = .ok () w2 ∧ MapOf w2 kv vv b (store x a l) ∧ w.grownBy w2 (some b) := by
  have hm' := hm
  obtain ⟨es, clock, hb, hes, hborn, hnd⟩ := hm
  obtain ⟨lx, hlx⟩ := K.key x
  have hck := K.keyed.check w false hlx
  have hbl : b < w.heap.size := (Array.getElem?_eq_some_iff.1 hb).1
  have hat : ∀ (w : World) (o : Obj), b < w.heap.size → (setBlock w b o).heap[b]? = some o := fun w o hbl => by simp [setBlock, hbl]
  have hsz : ∀ (w : World) (o : Obj), b < w.heap.size → b < (setBlock w b o).heap.size := fun w o hbl => by simpa [setBlock] using hbl
  rcases K.find hes x w with ⟨h1, h2⟩ | ⟨j, a', h1, h2, e', he1, he2⟩
  · have hlk : (look x l).getD z = z := by rw [look_none h2]; rfl
    rw [hlk]
    refine ⟨clock, setBlock w b (.map (es.push ⟨kv x, vv z, clock⟩) (clock + 1)), ?_, ⟨l ++ [(x, z)], ?_, ?_, ?_⟩, grown_setB _ _ _, fun a => ⟨setBlock (setBlock w b (.map (es.push ⟨kv x, vv z, clock⟩) (clock + 1))) b (.map (es.push ⟨kv x, vv a, clock⟩) (clock + 1)), ?_, ?_, grown_trans (grown_setB _ _ _) (grown_setB _ _ _)⟩⟩
    · simp [Instr.mapEntry, run_underlying ht, MapKept.run_getObj_map hb, hck, h1, hz, MapKept.run_setObj_map _ hb, Result.andThen, setBlock, goInt]
    · obtain ⟨w', hu, hmu, hg⟩ := run_update_of K ht hm' hn x z
      have hu2 : (Instr.mapUpdate t (.map (some b)) (kv x) (vv z)).run P w = .ok () (setBlock w b (.map (es.push ⟨kv x, vv z, clock⟩) (clock + 1))) := by
        simp [Instr.mapUpdate, run_underlying ht, MapKept.run_getObj_map hb, hck, h1, MapKept.run_setObj_map _ hb, Result.andThen, setBlock]
      rw [hu2] at hu
      cases hu
      rw [store_new h2] at hmu
      exact hmu
    · rw [List.map_append]
      refine List.nodup_append.2 ⟨hn, by simp, fun y hy c hc e => ?_⟩
      simp at hc
      obtain ⟨p, hp, rfl⟩ := List.mem_map.1 hy
      exact h2 p hp (e.trans hc)
    · have := look_store x z l
      rw [store_new h2] at this
      rw [this]; rfl
    · have hw1 : (setBlock w b (.map (es.push ⟨kv x, vv z, clock⟩) (clock + 1))).heap[b]? = some (.map (es.push ⟨kv x, vv z, clock⟩) (clock + 1)) := hat _ _ hbl
      have hidx : (es.push ⟨kv x, vv z, clock⟩).findIdx? (fun e => ((e.born : Nat) : Int) == ((clock : Nat) : Int)) = some es.size := by
        rw [WideElems.findIdx_arr]
        have := WideElems.findIdx_born (l := (es.push ⟨kv x, vv z, clock⟩).toList) (j := es.size) (e0 := ⟨kv x, vv z, clock⟩) (by
          simp only [Array.toList_push, List.map_append, List.map_cons, List.map_nil]
          refine List.nodup_append.2 ⟨hnd, by simp, fun a ha c hc e1 => ?_⟩
          simp only [List.mem_singleton] at hc
          obtain ⟨y, hy, rfl⟩ := List.mem_map.1 ha
          have := hborn y hy
          omega) (by simp)
        exact this
      have hmod : (es.push ⟨kv x, vv z, clock⟩).modify es.size (fun e => { e with val := vv a }) = es.push ⟨kv x, vv a, clock⟩ := by
        apply Array.ext'
        rw [Array.toList_modify, Array.toList_push, Array.toList_push, ← Array.length_toList, WideElems.modify_last]
      generalize hWW : setBlock w b (.map (es.push ⟨kv x, vv z, clock⟩) (clock + 1)) = WW at *
      simp [Instr.entryStore, MapKept.run_getObj_map hw1, asInt, asIntOf, hidx, hmod, MapKept.run_setObj_map _ hw1, Result.andThen, setBlock]
    · obtain ⟨w', hu, hmu, hg⟩ := run_update_of K ht hm' hn x a
      have hu2 : (Instr.mapUpdate t (.map (some b)) (kv x) (vv a)).run P w = .ok () (setBlock w b (.map (es.push ⟨kv x, vv a, clock⟩) (clock + 1))) := by
        simp [Instr.mapUpdate, run_underlying ht, MapKept.run_getObj_map hb, hck, h1, MapKept.run_setObj_map _ hb, Result.andThen, setBlock]
      rw [hu2] at hu
      cases hu
      exact MapRaw.setB hmu hbl _ (hsz _ _ hbl)
  · have hlk : look x l = some a' := look_at j hn h2
    have hval : e'.val = vv a' := by
      have h3 : (es.toList.map (fun e => (e.key, e.val)))[j]? = some (e'.key, e'.val) := by rw [List.getElem?_map, he1]; rfl
      rw [hes, List.getElem?_map, h2] at h3
      simp at h3
      exact h3.2.symm
    have hj : es[j]? = some e' := by simpa using he1
    have hst : (Instr.keyThatStays (kv x) (kv x)).run P w = .ok (kv x) w := K.keyed.stays w hlx
    have hsame : es.modify j (fun e => { e with key := kv x }) = es := by
      apply Array.ext'
      rw [Array.toList_modify, ChangeMaps.modify_eq_set _ _ _ _ he1]
      have : ({ e' with key := kv x } : MapEntry) = e' := by rw [← he2]
      rw [this]
      exact WideElems.set_self _ _ _ he1
    rw [hlk]
    refine ⟨e'.born, setBlock w b (.map es clock), ?_, ⟨l, ⟨es, clock, hat _ _ hbl, hes, hborn, hnd⟩, hn, by rw [hlk]⟩, grown_setB _ _ _, fun a => ⟨setBlock (setBlock w b (.map es clock)) b (.map (es.modify j (fun e' => { e' with key := kv x, val := vv a })) clock), ?_, ?_, grown_trans (grown_setB _ _ _) (grown_setB _ _ _)⟩⟩
    · simp [Instr.mapEntry, run_underlying ht, MapKept.run_getObj_map hb, hck, h1, hj, he2, hst, hsame, MapKept.run_setObj_map _ hb, Result.andThen, setBlock, goInt]
    · have hw1 : (setBlock w b (.map es clock)).heap[b]? = some (.map es clock) := hat _ _ hbl
      have hidx : es.findIdx? (fun e => ((e.born : Nat) : Int) == ((e'.born : Nat) : Int)) = some j := by
        rw [WideElems.findIdx_arr]
        exact WideElems.findIdx_born hnd he1
      have hmod : es.modify j (fun e => { e with val := vv a }) = es.modify j (fun e' => { e' with key := kv x, val := vv a }) := by
        apply Array.ext'
        rw [Array.toList_modify, Array.toList_modify, ChangeMaps.modify_eq_set _ _ _ _ he1, ChangeMaps.modify_eq_set _ _ _ _ he1, ← he2]
      generalize hWW : setBlock w b (.map es clock) = WW at *
      simp [Instr.entryStore, MapKept.run_getObj_map hw1, asInt, asIntOf, hidx, hmod, MapKept.run_setObj_map _ hw1, Result.andThen, setBlock]
    · obtain ⟨w', hu, hmu, hg⟩ := run_update_of K ht hm' hn x a
      have hu2 : (Instr.mapUpdate t (.map (some b)) (kv x) (vv a)).run P w = .ok () (setBlock w b (.map (es.modify j (fun e' => { e' with key := kv x, val := vv a })) clock)) := by
        simp [Instr.mapUpdate, run_underlying ht, MapKept.run_getObj_map hb, hck, h1, hj, he2, hst, MapKept.run_setObj_map _ hb, Result.andThen, setBlock]
      rw [hu2] at hu
      cases hu
      exact MapRaw.setB hmu hbl _ (hsz _ _ hbl)
end
end Go.Proofs.YtehdddilcakmlaaDoor
