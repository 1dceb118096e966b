/- Values as texts: the pure reading of a text, and how a value lies in memory. No condition of its own. -/
import Derived.Test.YtfchdibbjaeocaaKBy
namespace Go.Kx.Js
open Go.Kx Go.RowKit

/-! ### Values -/
/-- A value: its kind, its truth, its text, its list, its members. -/
inductive J
  | mk (kind : Int) (yes : Bool) (text : ByteArray) (list : List J) (mems : List (ByteArray × J))
abbrev Ms := List (ByteArray × J)
def J.kind : J → Int | .mk k _ _ _ _ => k
def J.yes : J → Bool | .mk _ y _ _ _ => y
def J.text : J → ByteArray | .mk _ _ t _ _ => t
def J.list : J → List J | .mk _ _ _ l _ => l
def J.mems : J → Ms | .mk _ _ _ _ m => m
def jNull : J := .mk 1 false ⟨#[]⟩ [] []
def jTruth (b : Bool) : J := .mk 2 b ⟨#[]⟩ [] []
def jNum (t : ByteArray) : J := .mk 3 false t [] []
def jStr (t : ByteArray) : J := .mk 4 false t [] []
def jArr (l : List J) : J := .mk 5 false ⟨#[]⟩ l []
def jObj (m : Ms) : J := .mk 6 false ⟨#[]⟩ [] m
def jNone : J := .mk 0 false ⟨#[]⟩ [] []

/-- Cells that are read for good, behind a slice's address. -/
def RdV (H : Hp) (A : Option Addr) (xs : List Value) : Prop := (A = none → xs = []) ∧ ∀ a, A = some a → RdN H (some a) 0 xs
theorem RdV.mono {H H' : Hp} (h : H.Le H') {A : Option Addr} {xs : List Value} (hb : RdV H A xs) : RdV H' A xs := ⟨hb.1, fun a e => (hb.2 a e).mono h⟩
theorem RdV.of_frozen {H : Hp} {x : Value} {n : Nat} {vs : List Value} (h : Frozen H x n vs) : ∃ A cap, x = .slice A n cap ∧ RdV H A vs := by
  rcases h with ⟨rfl, h1, h2⟩ | ⟨g, o, cap, rfl, _, h2⟩
  · subst h1
    exact ⟨none, 0, rfl, fun _ => h2, fun _ e => (nomatch e)⟩
  · exact ⟨_, cap, rfl, fun e => (nomatch e), fun a e => by injection e with e; subst e; exact h2⟩
theorem RdV.nil (H : Hp) : RdV H none [] := ⟨fun _ => rfl, fun _ e => (nomatch e)⟩

mutual
/-- How a value lies in memory: its five cells. -/
inductive JAt (H : Hp) : J → List Value → Prop
  | mk {k : Int} {y : Bool} {t : ByteArray} {js : List J} {ms : Ms} {A : Option Addr} {n c : Nat} {B : Option Addr} {m d : Nat} {xs zs : List Value} :
    n = js.length → JsAt H js xs → RdV H A xs → m = ms.length → MsAt H ms zs → RdV H B zs → JAt H (.mk k y t js ms) [.int .i64 k, .bool y, .string t, .slice A n c, .slice B m d]
inductive JsAt (H : Hp) : List J → List Value → Prop
  | nil : JsAt H [] []
  | cons {j : J} {cs : List Value} {js : List J} {xs : List Value} : JAt H j cs → JsAt H js xs → JsAt H (j :: js) (cs ++ xs)
inductive MsAt (H : Hp) : Ms → List Value → Prop
  | nil : MsAt H [] []
  | cons {s : ByteArray} {j : J} {cs : List Value} {ms : Ms} {xs : List Value} : JAt H j cs → MsAt H ms xs → MsAt H ((s, j) :: ms) (.string s :: cs ++ xs)
end
mutual
theorem JAt.mono {H H' : Hp} (h : H.Le H') {j : J} {cs : List Value} : JAt H j cs → JAt H' j cs
  | .mk h1 h2 h3 h4 h5 h6 => .mk h1 (h2.mono h) (h3.mono h) h4 (h5.mono h) (h6.mono h)
theorem JsAt.mono {H H' : Hp} (h : H.Le H') {j : List J} {cs : List Value} : JsAt H j cs → JsAt H' j cs
  | .nil => .nil
  | .cons h1 h2 => .cons (h1.mono h) (h2.mono h)
theorem MsAt.mono {H H' : Hp} (h : H.Le H') {j : Ms} {cs : List Value} : MsAt H j cs → MsAt H' j cs
  | .nil => .nil
  | .cons h1 h2 => .cons (h1.mono h) (h2.mono h)
end
theorem JAt.length {H : Hp} {j : J} {cs : List Value} (h : JAt H j cs) : cs.length = 5 := by cases h; rfl
theorem JsAt.length {H : Hp} : ∀ {js : List J} {xs : List Value}, JsAt H js xs → xs.length = js.length * 5
  | _, _, .nil => rfl
  | _, _, .cons h1 h2 => by rw [List.length_append, h1.length, h2.length, List.length_cons]; omega
theorem MsAt.length {H : Hp} : ∀ {js : Ms} {xs : List Value}, MsAt H js xs → xs.length = js.length * 6
  | _, _, .nil => rfl
  | _, _, .cons h1 h2 => by rw [List.length_append, List.length_cons, h1.length, h2.length, List.length_cons]; omega
theorem JsAt.snoc {H : Hp} : ∀ {js : List J} {xs : List Value} {j : J} {cs : List Value}, JsAt H js xs → JAt H j cs → JsAt H (js ++ [j]) (xs ++ cs)
  | _, _, j, cs, .nil, h => by have := JsAt.cons h .nil; rwa [List.append_nil] at this
  | _, _, j, cs, .cons h1 h2, h => by rw [List.append_assoc]; exact .cons h1 (JsAt.snoc h2 h)
theorem MsAt.snoc {H : Hp} : ∀ {js : Ms} {xs : List Value} {s : ByteArray} {j : J} {cs : List Value}, MsAt H js xs → JAt H j cs → MsAt H (js ++ [(s, j)]) (xs ++ .string s :: cs)
  | _, _, s, j, cs, .nil, h => by have := MsAt.cons (s := s) h .nil; rwa [List.append_nil] at this
  | _, _, s, j, cs, .cons h1 h2, h => by rw [List.append_assoc]; exact .cons h1 (MsAt.snoc h2 h)
theorem JAt.bare {H : Hp} (k : Int) (y : Bool) (t : ByteArray) : JAt H (.mk k y t [] []) [.int .i64 k, .bool y, .string t, .slice none 0 0, .slice none 0 0] :=
  .mk rfl .nil (.nil H) rfl .nil (.nil H)
/-- The cells of member i. -/
theorem MsAt.get {H : Hp} : ∀ {ms : Ms} {xs : List Value}, MsAt H ms xs → ∀ {i : Nat} {s : ByteArray} {j : J}, ms[i]? = some (s, j) → ∃ cs, JAt H j cs ∧ (xs.drop (i * 6)).take 6 = .string s :: cs
  | _, _, .nil, i, s, j, h => by simp at h
  | _, _, .cons (s := s0) (cs := cs) (xs := xs) h1 h2, i, s, j, h => by
    have hl := h1.length
    cases i with
    | zero =>
      simp at h
      obtain ⟨rfl, rfl⟩ := h
      refine ⟨cs, h1, ?_⟩
      rw [Nat.zero_mul, List.drop_zero, List.take_append_of_le_length (by simp [hl]), List.take_of_length_le (by simp [hl])]
    | succ i =>
      obtain ⟨cs', h3, h4⟩ := MsAt.get h2 (i := i) (by simpa using h)
      refine ⟨cs', h3, ?_⟩
      rw [show (i + 1) * 6 = (Value.string s0 :: cs).length + i * 6 by simp [hl]; omega, ← List.drop_drop, List.drop_left]
      exact h4
theorem JsAt.get {H : Hp} : ∀ {js : List J} {xs : List Value}, JsAt H js xs → ∀ {i : Nat} {j : J}, js[i]? = some j → ∃ cs, JAt H j cs ∧ (xs.drop (i * 5)).take 5 = cs
  | _, _, .nil, i, j, h => by simp at h
  | _, _, .cons (cs := cs) (xs := xs) h1 h2, i, j, h => by
    have hl := h1.length
    cases i with
    | zero =>
      simp at h
      subst h
      refine ⟨cs, h1, ?_⟩
      rw [Nat.zero_mul, List.drop_zero, List.take_append_of_le_length (by omega), List.take_of_length_le (by omega)]
    | succ i =>
      obtain ⟨cs', h3, h4⟩ := JsAt.get h2 (i := i) (by simpa using h)
      refine ⟨cs', h3, ?_⟩
      rw [show (i + 1) * 5 = cs.length + i * 5 by rw [hl]; omega, ← List.drop_drop, List.drop_left]
      exact h4

theorem cells_at {xs ys : List Value} {a m : Nat} (h : (xs.drop a).take m = ys) {off : Nat} (ho : off = a) : ∀ (j : Nat) (x : Value), ys[j]? = some x → xs[off + j]? = some x := by
  intro j x hx
  rw [← h, List.getElem?_take] at hx
  split at hx
  · rw [List.getElem?_drop] at hx; rw [ho]; exact hx
  · cases hx
/-- A value's five cells, one by one. -/
theorem JAt.cells {H : Hp} {j : J} {cs : List Value} (h : JAt H j cs) : ∃ A n c B m d, cs = [.int .i64 j.kind, .bool j.yes, .string j.text, .slice A n c, .slice B m d] := by
  cases h with | mk => exact ⟨_, _, _, _, _, _, rfl⟩

/-! ### The reading of a text -/
/-- What a reading comes to: something and the rest; or an error's number, and the rest from its place on. -/
inductive Res (α : Type)
  | ok (x : α) (r : List UInt8)
  | no (e : Nat) (r : List UInt8)
def Res.bind {α β : Type} (a : Res α) (f : α → List UInt8 → Res β) : Res β :=
  match a with
  | .ok x r => f x r
  | .no e r => .no e r
def pk : List UInt8 → UInt8
  | [] => 0
  | c :: _ => c
def tk (c : UInt8) : List UInt8 → Option (List UInt8)
  | [] => none
  | x :: r => if x = c then some r else none
def mustP (c : UInt8) (l : List UInt8) : Res Unit :=
  match tk c l with
  | some r => .ok () r
  | none => .no 31 l
def isBlank (c : UInt8) : Bool := c == 32 || c == 9 || c == 10 || c == 13
def blankP : List UInt8 → List UInt8
  | [] => []
  | c :: r => if isBlank c then blankP r else c :: r
def wordP : List UInt8 → List UInt8 → Res Unit
  | [], l => .ok () l
  | c :: w, l => (mustP c l).bind fun _ r => wordP w r
def isDig (c : UInt8) : Bool := decide (48 ≤ c.toNat) && decide (c.toNat ≤ 57)
def digsP : List UInt8 → List UInt8
  | [] => []
  | c :: r => if isDig c then digsP r else c :: r
def digitsP (l : List UInt8) : Res Unit := if isDig (pk l) then .ok () (digsP l) else .no 31 l
def optP (c : UInt8) (l : List UInt8) : List UInt8 := (tk c l).getD l
def tkB (c : UInt8) (l : List UInt8) : Bool := (tk c l).isSome
def num1 (l : List UInt8) : Res Unit := if tkB 48 l then .ok () (optP 48 l) else digitsP (optP 48 l)
def num2 (l : List UInt8) : Res Unit := if tkB 46 l then digitsP (optP 46 l) else .ok () (optP 46 l)
def num4 (l : List UInt8) : Res Unit := if tkB 43 l then digitsP (optP 43 l) else digitsP (optP 45 (optP 43 l))
def num3 (l : List UInt8) : Res Unit := if tkB 101 l then num4 (optP 101 l) else if tkB 69 (optP 101 l) then num4 (optP 69 (optP 101 l)) else .ok () (optP 69 (optP 101 l))
def numberP (l : List UInt8) : Res ByteArray :=
  (num1 (optP 45 l)).bind fun _ l2 => (num2 l2).bind fun _ l3 => (num3 l3).bind fun _ l4 => .ok ⟨(l.take (l.length - l4.length)).toArray⟩ l4
/-- A hexadecimal digit's number. -/
def hexD (c : UInt8) : Option Nat :=
  if 48 ≤ c.toNat ∧ c.toNat ≤ 57 then some (c.toNat - 48) else if 97 ≤ c.toNat ∧ c.toNat ≤ 102 then some (c.toNat - 87) else if 65 ≤ c.toNat ∧ c.toNat ≤ 70 then some (c.toNat - 55) else none
def hexP : Nat → Nat → List UInt8 → Res Nat
  | 0, n, l => .ok n l
  | k + 1, n, l => match hexD (pk l) with
    | some d => hexP k (n * 16 + d) l.tail
    | none => .no 31 l
/-- What stands behind a sign and a u. -/
def behindU (l : List UInt8) : Option (List UInt8) :=
  match tk 92 l with
  | none => none
  | some l2 => tk 117 l2
/-- A character of a number; 'from': the place of its sign. -/
def unitP (fr l : List UInt8) : Res Nat := (hexP 4 0 l).bind fun a l1 =>
  if a < 55296 ∨ 57344 ≤ a then .ok a l1 else
  if 56320 ≤ a then .no 31 fr else
  match behindU l1 with
  | none => .no 31 fr
  | some l3 => (hexP 4 0 l3).bind fun b l4 => if b < 56320 ∨ 57344 ≤ b then .no 31 fr else .ok (65536 + (a - 55296) * 1024 + (b - 56320)) l4
def by1 (y : Int) : UInt8 := UInt8.ofNat (IntKind.u8.wrap y).toNat
theorem by1_eq (y : Int) : IntKind.u8.wrap y = ((by1 y).toNat : Int) := by
  have h : IntKind.u8.wrap y = y % 256 := by simp [IntKind.wrap, IntKind.bits, IntKind.signed]
  unfold by1
  rw [h, UInt8.toNat_ofNat']
  omega
def or8 (a b : Int) : Int := ((BitVec.ofInt IntKind.u8.bits a ||| BitVec.ofInt IntKind.u8.bits b).toNat : Int)
def and8 (a b : Int) : Int := ((BitVec.ofInt IntKind.u8.bits a &&& BitVec.ofInt IntKind.u8.bits b).toNat : Int)
def sh32 (x y : Int) : Int := IntKind.u8.wrap (x.fdiv (2 ^ min (Int.toNat y) IntKind.i32.bits))
/-- A character's bytes, as the library has them. -/
def runeB (x : Int) : List UInt8 :=
  if x ≤ 127 then [by1 x] else
  if x ≤ 2047 then [by1 (or8 192 (sh32 x 6)), by1 (or8 128 (IntKind.u8.wrap (and8 (IntKind.u8.wrap x) 63)))] else
  if x ≤ 65535 then [by1 (or8 224 (sh32 x 12)), by1 (or8 128 (IntKind.u8.wrap (and8 (sh32 x 6) 63))), by1 (or8 128 (IntKind.u8.wrap (and8 (IntKind.u8.wrap x) 63)))] else
  [by1 (or8 240 (sh32 x 18)), by1 (or8 128 (IntKind.u8.wrap (and8 (sh32 x 12) 63))), by1 (or8 128 (IntKind.u8.wrap (and8 (sh32 x 6) 63))), by1 (or8 128 (IntKind.u8.wrap (and8 (IntKind.u8.wrap x) 63)))]
/-- What a letter behind a sign stands for. -/
def shortB (c : UInt8) : Option UInt8 :=
  if c = 98 then some 8 else if c = 102 then some 12 else if c = 110 then some 10 else if c = 114 then some 13 else if c = 116 then some 9 else if c = 34 then some 34 else if c = 92 then some 92 else none
def escP (fr l : List UInt8) : Res (List UInt8) :=
  match shortB (pk l) with
  | some b => .ok [b] l.tail
  | none => match tk 47 l with
    | some r => .ok [47] r
    | none => match tk 117 l with
      | some r => (unitP fr r).bind fun n r2 => .ok (runeB (n : Int)) r2
      | none => .no 31 l
/-- A string's rest; k: so many steps at most. -/
def strP : Nat → List UInt8 → List UInt8 → Res (List UInt8)
  | 0, _, l => .no 0 l
  | k + 1, b, l => match tk 34 l with
    | some r => .ok b r
    | none => match tk 92 l with
      | some r => (escP l r).bind fun x r2 => strP k (b ++ x) r2
      | none => if (pk l).toNat < 32 then .no 31 l else strP k (b ++ [pk l]) l.tail
def textP (l : List UInt8) : Res ByteArray := (mustP 34 l).bind fun _ r => (strP (r.length + 1) [] r).bind fun b r2 => .ok ⟨b.toArray⟩ r2
/-- Things with commas between them, up to a byte. -/
def rowP {α : Type} (one : α → List UInt8 → Res α) (en : UInt8) : Nat → Bool → α → List UInt8 → Res α
  | 0, _, _, l => .no 0 l
  | k + 1, first, x, l => match (if first then tk en l else none) with
    | some r => .ok x r
    | none => (one x l).bind fun y l1 => match tk en (blankP l1) with
      | some r => .ok y r
      | none => (mustP 44 (blankP l1)).bind fun _ l3 => rowP one en k false y (blankP l3)
def getP (ms : Ms) (s : ByteArray) : Option J :=
  match ms with
  | [] => none
  | (t, j) :: r => if t = s then some j else getP r s
def memP (val : List UInt8 → Res J) (ms : Ms) (l : List UInt8) : Res Ms :=
  (textP l).bind fun s l1 => match getP ms s with
    | some _ => .no 15 l
    | none => (mustP 58 (blankP l1)).bind fun _ l2 => (val (blankP l2)).bind fun j l3 => .ok (ms ++ [(s, j)]) l3
def elP (val : List UInt8 → Res J) (js : List J) (l : List UInt8) : Res (List J) := (val l).bind fun j r => .ok (js ++ [j]) r
def enterP (c : UInt8) (l : List UInt8) : Res Unit := (mustP c l).bind fun _ r => .ok () (blankP r)
/-- A value; 'deeper': how the values in it are read, if it may have any. -/
def valS (deeper : Option (List UInt8 → Res J)) (l : List UInt8) : Res J :=
  let c := (pk l).toNat
  if c = 110 then (wordP [110, 117, 108, 108] l).bind fun _ r => .ok jNull r else
  if c = 116 then (wordP [116, 114, 117, 101] l).bind fun _ r => .ok (jTruth true) r else
  if c = 102 then (wordP [102, 97, 108, 115, 101] l).bind fun _ r => .ok (jTruth false) r else
  if c = 34 then (textP l).bind fun s r => .ok (jStr s) r else
  if c = 91 then match deeper with
    | none => .no 32 l
    | some val => (enterP 91 l).bind fun _ r => (rowP (elP val) 93 (r.length + 1) true [] r).bind fun js r2 => .ok (jArr js) r2
  else
  if c = 123 then match deeper with
    | none => .no 32 l
    | some val => (enterP 123 l).bind fun _ r => (rowP (memP val) 125 (r.length + 1) true [] r).bind fun ms r2 => .ok (jObj ms) r2
  else
  if c = 45 ∨ isDig (pk l) then (numberP l).bind fun s r => .ok (jNum s) r else .no 31 l
def valP : Nat → List UInt8 → Res J
  | 0 => valS none
  | d + 1 => valS (some (valP d))
def wholeP (d : Nat) (l : List UInt8) : Res J := (valP d (blankP l)).bind fun j r => match blankP r with
  | [] => .ok j []
  | c :: r2 => .no 31 (c :: r2)

/-! ### Rests -/
/-- r is a rest of l. -/
def Sfx (r l : List UInt8) : Prop := ∃ p, l = p ++ r
theorem Sfx.refl (l : List UInt8) : Sfx l l := ⟨[], rfl⟩
theorem Sfx.trans {a b c : List UInt8} (h : Sfx a b) (h' : Sfx b c) : Sfx a c := by
  obtain ⟨p, rfl⟩ := h; obtain ⟨q, rfl⟩ := h'; exact ⟨q ++ p, by rw [List.append_assoc]⟩
theorem Sfx.tail {c : UInt8} {r l : List UInt8} (h : Sfx (c :: r) l) : Sfx r l := by obtain ⟨p, rfl⟩ := h; exact ⟨p ++ [c], by simp⟩
theorem Sfx.le {r l : List UInt8} (h : Sfx r l) : r.length ≤ l.length := by obtain ⟨p, rfl⟩ := h; simp
theorem Sfx.drop {r l : List UInt8} (h : Sfx r l) : l.drop (l.length - r.length) = r := by
  obtain ⟨p, rfl⟩ := h
  rw [List.length_append, Nat.add_sub_cancel, List.drop_left]
theorem blankP_sfx : ∀ l : List UInt8, Sfx (blankP l) l
  | [] => .refl _
  | c :: r => by
    unfold blankP
    split
    · exact (blankP_sfx r).trans ⟨[c], rfl⟩
    · exact .refl _
theorem digsP_sfx : ∀ l : List UInt8, Sfx (digsP l) l
  | [] => .refl _
  | c :: r => by
    unfold digsP
    split
    · exact (digsP_sfx r).trans ⟨[c], rfl⟩
    · exact .refl _
theorem tk_some {c : UInt8} {l r : List UInt8} (h : tk c l = some r) : l = c :: r := by
  cases l with
  | nil => cases h
  | cons x l =>
    simp only [tk] at h
    by_cases hx : x = c
    · rw [if_pos hx] at h; subst hx; injection h with h; rw [h]
    · rw [if_neg hx] at h; cases h
theorem tk_sfx {c : UInt8} {l r : List UInt8} (h : tk c l = some r) : Sfx r l := ⟨[c], tk_some h⟩
end Go.Kx.Js
