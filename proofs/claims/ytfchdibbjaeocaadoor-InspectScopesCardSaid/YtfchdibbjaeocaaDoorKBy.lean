/- Bytes: as cells, read for good, told by a call. Generic in the program; no condition of its own. -/
import Derived.Test.YtfchdibbjaeocaaDoorKG
namespace Go.Kx
open Go.RowKit
def byteN (bs : List UInt8) (i : Nat) : Nat := (bs.getD i 0).toNat
def bCells (bs : List UInt8) : List Value := bs.map fun b => Value.int .u8 b.toNat
theorem bCells_get {bs : List UInt8} {i : Nat} (hi : i < bs.length) : (bCells bs)[i]? = some (.int .u8 (byteN bs i)) := by
  simp [bCells, byteN, hi, List.getD_eq_getElem?_getD]
theorem bget {bs : List UInt8} {i off : Nat} (hi : i < bs.length) (ho : off = i) : (bCells bs)[off]? = some (.int .u8 (byteN bs i)) := by subst ho; exact bCells_get hi
/-- Bytes that are read for good. -/
def BytesAt (H : Hp) (A : Option Addr) (n : Nat) (bs : List UInt8) : Prop := n = bs.length ∧ (A = none → bs = []) ∧ ∀ a, A = some a → RdN H (some a) 0 (bCells bs)
theorem BytesAt.mono {H H' : Hp} (h : H.Le H') {A : Option Addr} {n : Nat} {bs : List UInt8} (hb : BytesAt H A n bs) : BytesAt H' A n bs :=
  ⟨hb.1, hb.2.1, fun a e => let ⟨b, o, h1, h2⟩ := hb.2.2 a e; ⟨b, o, h1, fun j x hx => h _ _ _ (h2 j x hx)⟩⟩
theorem bCells_length (bs : List UInt8) : (bCells bs).length = bs.length := by simp [bCells]
theorem bCells_one (bs : List UInt8) : ∀ u ∈ bCells bs, u.oneCell' = true := by
  intro u hu
  obtain ⟨b, _, rfl⟩ := List.mem_map.1 hu
  rfl
theorem bCells_append (a b : List UInt8) : bCells a ++ bCells b = bCells (a ++ b) := by simp [bCells]
theorem bCells_drop (a : List UInt8) (n : Nat) : (bCells a).drop n = bCells (a.drop n) := by simp [bCells]
theorem one_int (k : IntKind) (x : Int) : ∀ u ∈ [Value.int k x], u.oneCell' = true := by
  intro u hu
  rcases List.mem_singleton.1 hu with rfl
  rfl
theorem bCells_snoc (a : List UInt8) (b : UInt8) {x : Int} (h : x = (b.toNat : Int)) : bCells a ++ [.int .u8 x] = bCells (a ++ [b]) := by
  rw [h]; exact bCells_append a [b]
theorem BytesAt.of_frozen {H : Hp} {x : Value} {n : Nat} {bs : List UInt8} (hn : n = bs.length) (h : Frozen H x n (bCells bs)) : ∃ A cap, x = .slice A n cap ∧ BytesAt H A n bs := by
  rcases h with ⟨rfl, h1, h2⟩ | ⟨g, o, cap, rfl, _, h2⟩
  · subst h1
    have : bs = [] := List.eq_nil_of_length_eq_zero hn.symm
    exact ⟨none, 0, rfl, hn, fun _ => this, fun a e => (nomatch e)⟩
  · exact ⟨_, cap, rfl, hn, fun e => (nomatch e), fun a e => by injection e with e; subst e; exact h2⟩
theorem BytesAt.lit {H : Hp} {a : Addr} {bs : List UInt8} {n : Nat} (hn : n = bs.length) (h : RdN H (some a) 0 (bCells bs)) : BytesAt H (some a) n bs :=
  ⟨hn, fun e => (nomatch e), fun b e => by injection e with e; subst e; exact h⟩
/-- The same, of an empty slice nothing but its length. -/
def BytesZ (H : Hp) (A : Option Addr) (n : Nat) (bs : List UInt8) : Prop := n = bs.length ∧ (A = none → bs = []) ∧ ∀ a, A = some a → n = 0 ∨ RdN H (some a) 0 (bCells bs)
theorem BytesAt.z {H : Hp} {A : Option Addr} {n : Nat} {bs : List UInt8} (h : BytesAt H A n bs) : BytesZ H A n bs := ⟨h.1, h.2.1, fun a e => .inr (h.2.2 a e)⟩
theorem BytesZ.mono {H H' : Hp} (h : H.Le H') {A : Option Addr} {n : Nat} {bs : List UInt8} (hb : BytesZ H A n bs) : BytesZ H' A n bs := ⟨hb.1, hb.2.1, fun a e => (hb.2.2 a e).imp id fun h2 => h2.mono h⟩
/-- What is told are these bytes. -/
def RetB (bs : List UInt8) (e : SE) (H' : Hp) : Prop := ∃ A n cap, e = .ret (pv (.slice A n cap)) ∧ BytesAt H' A n bs
theorem CallO.bytes {P : Program} {f : FuncId} {svs : List SV} {H : Hp} {t : TypeId} {n : Nat} {bs : List UInt8} (hn : n = bs.length) (h : CallO P f svs H [] fun e _ G' => e = .ret (.si (.ce (.self 0))) ∧ G' = [.row t 1 n (bCells bs)]) :
    CallO P f svs H [] fun e H' G' => RetB bs e H' ∧ G' = [] := by
  refine CallO.sub (CallO.frz (K := fun e H' G' => (∃ A n cap, e = .ret (pv (.slice A n cap)) ∧ BytesAt H' A n bs) ∧ G' = [.dead]) h ?_) ?_
  · rintro e H' G' hle ⟨rfl, rfl⟩
    refine ⟨0, t, 1, n, bCells bs, rfl, fun h0 => ?_, fun x H2 hle2 hfr => ?_⟩
    · have : bs = [] := List.eq_nil_of_length_eq_zero (by omega)
      rw [this]; rfl
    · obtain ⟨A, cap, rfl, hb⟩ := BytesAt.of_frozen hn hfr
      exact ⟨⟨A, n, cap, rfl, hb⟩, rfl⟩
  · rintro e H' G' hle ⟨⟨A, n, cap, rfl, hb⟩, rfl⟩
    exact ⟨_, [], [], rfl, trivial, rfl, ⟨A, n, cap, rfl, hb⟩, rfl⟩
theorem strEq_self (b : ByteArray) : strEq b b = true := strEq_iff.2 rfl
def strOf (l : List UInt8) : ByteArray := ⟨l.toArray⟩
theorem cells_str (l : List UInt8) : bCells l = byteCells (strOf l) := by
  rw [byteCells_map]
  unfold bCells strOf
  rw [List.map_map]; rfl
end Go.Kx
