/- A store whose blocks are all new: operations on it, told simply. -/
import Derived.Test.YtehdddilcakmlaaDoorNNil
import Derived.Test.YtehdddilcakmlaaDoorNTest
namespace Go.Proofs.YtehdddilcakmlaaDoor
open Go.RowKit Go.Sort Go.Maps Go.Lib
set_option linter.unusedSimpArgs false

def Own (lo : Nat) (w : World) (p : Nat) (L : List NdD) : Prop := ∃ F, St F w p L ∧ ∀ b, F b → lo ≤ b
/-- what an operation does to a store that is all new since w0 -/
structure Did (w0 w' : World) (p : Nat) (L : List NdD) : Prop where
  st : Own w0.heap.size w' p L
  ex : Ext w0 w'
theorem Did.ext {w0 w w' : World} {p : Nat} {L : List NdD} (h : Did w0 w p L) (hx : Ext w w') : Did w0 w' p L := by
  obtain ⟨⟨F, h1, h2⟩, h3⟩ := h
  exact ⟨⟨F, h1.ext hx, h2⟩, h3.trans hx⟩
theorem Did.inv {w0 w : World} {p : Nat} {L : List NdD} (h : Did w0 w p L) : InvL L := by
  obtain ⟨⟨F, h1, h2⟩, h3⟩ := h
  exact h1.inv
theorem Did.op {w0 w w' : World} {p : Nat} {F F' : Nat → Prop} {L' : List NdD} (hF : ∀ b, F b → w0.heap.size ≤ b) (hx : Ext w0 w) (h : StTo F w w' p L' F') : Did w0 w' p L' := by
  have hk := h.kp
  refine ⟨⟨F', h.st, fun b hb => (h.sub b hb).elim (hF b) fun h2 => Nat.le_trans hx.size h2⟩, hx.trans' ?_⟩
  exact ⟨hk.os, hk.tape, hk.output, hk.size, fun i hi => hk.block i (Nat.lt_of_lt_of_le hi hx.size) (fun hb => by have := hF i hb; omega)⟩
def DidPost (w0 : World) (p : Nat) (R : (Int × Int) × List NdD) (e : Ending) (w' : World) : Prop := e = .returned (.tuple #[.int .i64 R.1.1, .int .i64 R.1.2]) ∧ Did w0 w' p R.2
theorem leafO {w0 : World} {B : Nat → Prop} (p : Nat) (L : List NdD) (l : List RowD) (v : Value) (w : World) (h : Did w0 w p L) (hv : RowsOn B w l v) (hl : l.length ≤ 20000) (hrl : ∀ r ∈ l, r.length ≤ 10000) (ht : Tb w) :
    Calls Tryd.prog 11 #[.pointer (some ⟨p, 0, none⟩), v] w (DidPost w0 p (leafP L l)) := by
  obtain ⟨⟨F, h1, h2⟩, h3⟩ := h
  refine (leafS_any p L l v w h1 hv hl hrl ht).mono ?_
  rintro e w' ⟨rfl, F', hto⟩
  exact ⟨rfl, Did.op h2 h3 hto⟩
theorem testO {w0 : World} (p : Nat) (L : List NdD) (f n hi lo : Int) (w : World) (h : Did w0 w p L) (hf : -128 ≤ f ∧ f ≤ 127) (hn : 0 ≤ n ∧ n ≤ 18446744073709551615) (hhi : -9223372036854775808 ≤ hi ∧ hi ≤ 9223372036854775807) (hlo : -9223372036854775808 ≤ lo ∧ lo ≤ 9223372036854775807) :
    Calls Tryd.prog 13 #[.pointer (some ⟨p, 0, none⟩), .int .i8 f, .int .u64 n, .int .i64 hi, .int .i64 lo] w (DidPost w0 p (testP L f n hi lo)) := by
  obtain ⟨⟨F, h1, h2⟩, h3⟩ := h
  refine (testS_any p L f n hi lo w h1 hf hn hhi hlo).mono ?_
  rintro e w' ⟨rfl, F', hto⟩
  exact ⟨rfl, Did.op h2 h3 hto⟩
theorem getO {w0 : World} (p : Nat) (L : List NdD) (id : Int) (w : World) (h : Did w0 w p L) (hid : -9223372036854775808 ≤ id ∧ id ≤ 9223372036854775807) :
    Calls Tryd.prog 15 #[.pointer (some ⟨p, 0, none⟩), .int .i64 id] w fun e w' => GetPost L id e w' ∧ Ext w w' := by
  obtain ⟨⟨F, h1, h2⟩, h3⟩ := h
  exact getS_any p L id w h1 hid
theorem lenO {w0 : World} (p : Nat) (L : List NdD) (w : World) (h : Did w0 w p L) :
    Calls Tryd.prog 18 #[.pointer (some ⟨p, 0, none⟩)] w fun e w' => e = .returned (.int .i64 L.length) ∧ w = w' := by
  obtain ⟨⟨F, h1, h2⟩, h3⟩ := h
  exact lenS_any p L w h1
theorem newO (w : World) : Calls Tryd.prog 10 #[] w fun e w' => ∃ p, e = .returned (.pointer (some ⟨p, 0, none⟩)) ∧ Did w w' p [] := by
  refine (newS_any w).mono ?_
  rintro e w' ⟨p, F, rfl, h1, h2, h3⟩
  exact ⟨p, rfl, ⟨F, h1, h2⟩, h3⟩
end Go.Proofs.YtehdddilcakmlaaDoor
