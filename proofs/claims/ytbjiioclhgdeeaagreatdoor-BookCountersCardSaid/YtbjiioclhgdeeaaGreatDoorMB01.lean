/- The blocks of the program that are laid for good and are spoken of whole. No condition of its own. -/
import GoSem.Core.World
import Derived.Calls
import Derived.Below
import Derived.Laws.AppendOwn
import Derived.MapKept
import Derived.Laws.Sem
import Derived.Laws.Rows
import Derived.Deep.MidRow
import Derived.WideLaws
import Derived.RowKit
import Derived.Laws.Strings
namespace Go.Kx
def pow10Cells : List Value := (List.range 20).map fun i => Value.int .u64 ((10 ^ i : Nat) : Int)
def Gl : Nat → Option (Array Value) := fun b => if b = 2 then some pow10Cells.toArray else none
end Go.Kx
namespace Go.Kx

inductive All2 {α β : Type} (R : α → β → Prop) : List α → List β → Prop
 | nil : All2 R [] []
 | cons {a b l m} : R a b → All2 R l m → All2 R (a :: l) (b :: m)
theorem All2.mono {α β : Type} {R S : α → β → Prop} (h : ∀ a b, R a b → S a b) {l : List α} {m : List β} (hl : All2 R l m) : All2 S l m := by
 induction hl with
 | nil => exact .nil
 | cons h1 _ ih => exact .cons (h _ _ h1) ih
theorem All2.length {α β : Type} {R : α → β → Prop} {l : List α} {m : List β} (h : All2 R l m) : l.length = m.length := by
 induction h with
 | nil => rfl
 | cons _ _ ih => simp [ih]
theorem All2.get {α β : Type} {R : α → β → Prop} {l : List α} {m : List β} (h : All2 R l m) : ∀ {i : Nat} {a : α}, l[i]? = some a → ∃ b, m[i]? = some b ∧ R a b := by
 induction h with
 | nil => intro i a h; simp at h
 | cons h1 _ ih =>
  intro i a h
  cases i with
  | zero => simp at h; subst h; exact ⟨_, rfl, h1⟩
  | succ i => exact ih (by simpa using h)
theorem All2.get' {α β : Type} {R : α → β → Prop} {l : List α} {m : List β} (h : All2 R l m) : ∀ {i : Nat} {b : β}, m[i]? = some b → ∃ a, l[i]? = some a ∧ R a b := by
 induction h with
 | nil => intro i a h; simp at h
 | cons h1 _ ih =>
  intro i a h
  cases i with
  | zero => simp at h; subst h; exact ⟨_, rfl, h1⟩
  | succ i => exact ih (by simpa using h)
theorem All2.set {α β : Type} {R : α → β → Prop} {l : List α} {m : List β} (h : All2 R l m) {a : α} {b : β} (hr : R a b) : ∀ i, All2 R (l.set i a) (m.set i b) := by
 induction h with
 | nil => intro i; exact .nil
 | cons h1 h2 ih =>
  intro i
  cases i with
  | zero => exact .cons hr h2
  | succ i => exact .cons h1 (ih i)
theorem All2.append {α β : Type} {R : α → β → Prop} {l l' : List α} {m m' : List β} (h : All2 R l m) (h' : All2 R l' m') : All2 R (l ++ l') (m ++ m') := by
 induction h with
 | nil => exact h'
 | cons h1 _ ih => exact .cons h1 ih
theorem All2.drop {α β : Type} {R : α → β → Prop} {l : List α} {m : List β} (h : All2 R l m) : ∀ i, All2 R (l.drop i) (m.drop i) := by
 induction h with
 | nil => intro i; simp; exact .nil
 | cons h1 h2 ih =>
  intro i
  cases i with
  | zero => exact .cons h1 h2
  | succ i => exact ih i
theorem All2.take {α β : Type} {R : α → β → Prop} {l : List α} {m : List β} (h : All2 R l m) : ∀ i, All2 R (l.take i) (m.take i) := by
 induction h with
 | nil => intro i; simp; exact .nil
 | cons h1 h2 ih =>
  intro i
  cases i with
  | zero => exact .nil
  | succ i => exact .cons h1 (ih i)
theorem All2.map_left {α β γ : Type} {R : α → β → Prop} {f : γ → α} {l : List γ} {m : List β} (h : All2 (fun c b => R (f c) b) l m) : All2 R (l.map f) m := by
 induction h with
 | nil => exact .nil
 | cons h1 _ ih => exact .cons h1 ih
theorem All2.of_map_left {α β γ : Type} {R : α → β → Prop} {f : γ → α} {l : List γ} {m : List β} (h : All2 R (l.map f) m) : All2 (fun c b => R (f c) b) l m := by
 induction l generalizing m with
 | nil => cases h; exact .nil
 | cons a l ih => cases h with | cons h1 h2 => exact .cons h1 (ih h2)

abbrev Hp := Nat → Nat → Option Value
def Hp.Le (H H' : Hp) : Prop := ∀ b o v, H b o = some v → H' b o = some v
def Hp.In (H : Hp) (w : World) : Prop := ∀ b o v, H b o = some v → w.cell? ⟨b, o, none⟩ = some v
def Hp.Out (H : Hp) (g : Nat) : Prop := ∀ o, H g o = none
theorem Hp.Le.refl (H : Hp) : H.Le H := fun _ _ _ h => h
theorem Hp.Le.trans {H H' H'' : Hp} (h : H.Le H') (h' : H'.Le H'') : H.Le H'' := fun _ _ _ e => h' _ _ _ (h _ _ _ e)

inductive SC
 | val (x : Value)
 | ptr (k off : Nat)
 | self (k : Nat)
 | fn (f : Fn) (n : Nat) (caps : List (Nat × Nat))
 | pp (A : Option Addr) (off : Nat)
 | cut (k sz lo m : Nat)
 | any
inductive SG
 | ce (x : SC)
 | ag (xs : List SC)
inductive SV
 | si (x : SG)
 | tu (xs : List SG)

def ptrAt (r : Value) (off : Nat) : Option Value :=
 match r with
 | .pointer (some a) => some (.pointer (some ⟨a.block, off, none⟩))
 | .slice (some a) _ _ => some (.pointer (some ⟨a.block, a.off + off, none⟩))
 | _ => none
def addrAt (A : Option Addr) (off : Nat) : Value := .pointer (A.map fun a => ⟨a.block, a.off + off, none⟩)
def cutV (x : Value) (sz lo m : Nat) : Option Value :=
 match x with
 | .slice A n cap => if lo + m ≤ n then some (.slice (if cap = lo then A else A.map (·.add (lo * sz))) m (cap - lo)) else none
 | _ => none
theorem cutV_slice {x y : Value} {sz lo m : Nat} (h : cutV x sz lo m = some y) : ∃ A n cap, x = .slice A n cap ∧ lo + m ≤ n ∧ y = .slice (if cap = lo then A else A.map (·.add (lo * sz))) m (cap - lo) := by
 unfold cutV at h
 split at h
 ·split at h
  ·rename_i A n cap hl
   injection h with h
   exact ⟨A, n, cap, rfl, hl, h.symm⟩
  ·cases h
 ·cases h
def SC.Is (ρ : List Value) : SC → Value → Prop
 | .val x, y => y = x
 | .ptr k off, y => ∃ r, ρ[k]? = some r ∧ ptrAt r off = some y
 | .self k, y => ρ[k]? = some y
 | .fn f n caps, y => ∃ ys : List Value, y = .func f (ys.take n).toArray (ys.drop n).toArray ∧ All2 (fun (p : Nat × Nat) z => ∃ r, ρ[p.1]? = some r ∧ ptrAt r p.2 = some z) caps ys
 | .pp A off, y => y = addrAt A off
 | .cut k sz lo m, y => ∃ r, ρ[k]? = some r ∧ cutV r sz lo m = some y
 | .any, _ => True
def SG.Is (ρ : List Value) : SG → Value → Prop
 | .ce x, y => x.Is ρ y
 | .ag xs, y => ∃ ys : List Value, y = .agg ys.toArray ∧ All2 (SC.Is ρ) xs ys
def SV.Is (ρ : List Value) : SV → Value → Prop
 | .si x, y => x.Is ρ y
 | .tu xs, y => ∃ ys : List Value, y = .tuple ys.toArray ∧ All2 (SG.Is ρ) xs ys

def Pre (ρ ρ' : List Value) : Prop := ∀ (k : Nat) (r : Value), ρ[k]? = some r → ρ'[k]? = some r
theorem Pre.refl (ρ : List Value) : Pre ρ ρ := fun _ _ h => h
theorem Pre.trans {a b c : List Value} (h : Pre a b) (h' : Pre b c) : Pre a c := fun _ _ e => h' _ _ (h _ _ e)
theorem Pre.append (ρ l : List Value) : Pre ρ (ρ ++ l) := fun k r h => by
 rw [List.getElem?_append_left (List.getElem?_eq_some_iff.1 h).1]; exact h
theorem SC.Is.mono {ρ ρ' : List Value} (h : Pre ρ ρ') {c : SC} {y : Value} (hc : c.Is ρ y) : c.Is ρ' y := by
 cases c with
 | val x => exact hc
 | ptr k off => obtain ⟨r, h1, h2⟩ := hc; exact ⟨r, h _ _ h1, h2⟩
 | self k => exact h _ _ hc
 | fn f n caps => obtain ⟨ys, h1, h2⟩ := hc; exact ⟨ys, h1, h2.mono fun a b ⟨r, hr, hp⟩ => ⟨r, h _ _ hr, hp⟩⟩
 | pp A off => exact hc
 | cut k sz lo m => obtain ⟨r, h1, h2⟩ := hc; exact ⟨r, h _ _ h1, h2⟩
 | any => trivial
theorem SG.Is.mono {ρ ρ' : List Value} (h : Pre ρ ρ') {c : SG} {y : Value} (hc : c.Is ρ y) : c.Is ρ' y := by
 cases c with
 | ce x => exact SC.Is.mono h hc
 | ag xs => obtain ⟨ys, h1, h2⟩ := hc; exact ⟨ys, h1, h2.mono fun _ _ => SC.Is.mono h⟩
theorem SV.Is.mono {ρ ρ' : List Value} (h : Pre ρ ρ') {c : SV} {y : Value} (hc : c.Is ρ y) : c.Is ρ' y := by
 cases c with
 | si x => exact SG.Is.mono h hc
 | tu xs => obtain ⟨ys, h1, h2⟩ := hc; exact ⟨ys, h1, h2.mono fun _ _ => SG.Is.mono h⟩

def OwnRow (w : World) (e sz : Nat) (r : Value) (n : Nat) (xs : List Value) : Prop :=
 xs.length = n * sz ∧ ((r = .slice none 0 0 ∧ n = 0) ∨ ∃ g o cap cur, r = .slice (some ⟨g, o, none⟩) n cap ∧ w.heap[g]? = some (.cells cur e (0, 0)) ∧ n ≤ cap ∧ cap ≤ maxLen ∧ o + cap * sz ≤ cur.size ∧ (cur.toList.drop o).take (n * sz) = xs)
theorem OwnRow.nil (w : World) (e sz : Nat) : OwnRow w e sz (.slice none 0 0) 0 [] := ⟨by simp, .inl ⟨rfl, rfl⟩⟩
theorem OwnRow.of {w : World} {base e sz n : Nat} {r : Value} {xs : List Value} (h : w.ownsRow base e sz r n xs) : OwnRow w e sz r n xs := by
 refine ⟨h.1, ?_⟩
 rcases h.2 with h | ⟨g, cap, cur, h1, _, h2, h3, h4, h5, h6⟩
 ·exact .inl h
 ·exact .inr ⟨g, 0, cap, cur, h1, h2, h3, h4, by omega, by simpa using h6⟩
structure MapIs (d : TypeDesc) (n : Nat) (f : Value → Option Value) (es : Array MapEntry) (clock : Nat) : Prop where
 stamped : MapKept.Stamped es clock
 keys : ∀ x ∈ es.toList, MapKept.IsKey d x.key
 size : es.size = n
 is : ∀ k v, f k = some v ↔ ∃ x ∈ es.toList, x.key = k ∧ x.val = v
def EntOne (ρ : List Value) (p : Value × SC × Nat) (e : MapEntry) : Prop := e.key = p.1 ∧ p.2.1.Is ρ e.val ∧ e.born = p.2.2
inductive SB
 | box (t : TypeId) (cs : List SC)
 | arr (t : TypeId) (xs : List Value)
 | pre (t : TypeId) (xs : List Value)
 | row (e : TypeId) (sz n : Nat) (xs : List Value)
 | byt (e : TypeId) (n : Nat) (xs : List Value)
 | map (d : TypeDesc) (n : Nat) (f : Value → Option Value)
 | ent (d : TypeDesc) (c : Nat) (l : List (Value × SC × Nat))
 | itr (k since : Nat) (seen : List Nat) (last : Nat)
 | frz (x : Value)
 | dead

def SB.Ok (ρ : List Value) (w : World) (r : Value) : SB → Prop
 | .box t cs => ∃ g ys, r = .pointer (some ⟨g, 0, none⟩) ∧ w.heap[g]? = some (.cells (List.toArray ys) t (0, 0)) ∧ All2 (SC.Is ρ) cs ys
 | .arr t xs => ∃ g, r = .pointer (some ⟨g, 0, none⟩) ∧ w.heap[g]? = some (.cells (List.toArray xs) t (0, 0))
 | .pre t xs => ∃ g cur, r = .pointer (some ⟨g, 0, none⟩) ∧ w.heap[g]? = some (.cells cur t (0, 0)) ∧ cur.toList.take xs.length = xs
 | .row e sz n xs => OwnRow w e sz r n xs
 | .byt e n xs => xs.length = n ∧ ∃ g cap cur fz, r = .slice (some ⟨g, 0, none⟩) n cap ∧ n ≤ cap ∧ w.heap[g]? = some (.cells cur e fz) ∧ n ≤ fz.1 ∧ n ≤ cur.size ∧ cur.toList.take n = xs
 | .map d n f => ∃ g es clock, r = .map (some g) ∧ w.heap[g]? = some (.map es clock) ∧ MapIs d n f es clock
 | .ent d c l => ∃ g es, r = .map (some g) ∧ w.heap[g]? = some (.map es c) ∧ MapKept.Stamped es c ∧ (∀ x ∈ es.toList, MapKept.IsKey d x.key) ∧ All2 (EntOne ρ) l es.toList
 | .itr k since seen last => ∃ g m, r = .pointer (some ⟨g, 0, none⟩) ∧ ρ[k]? = some (.map (some m)) ∧ w.heap[g]? = some (.mapIter (some m) since seen.toArray last)
 | .frz x => r = x
 | .dead => True
def SB.blk (r : Value) : SB → Option Nat
 | .box .. | .arr .. | .pre .. | .itr .. => match r with
  | .pointer (some a) => some a.block
  | _ => none
 | .row .. => r.ownBlock
 | .byt .. => r.ownBlock
 | .map .. | .ent .. => match r with
  | .map (some g) => some g
  | _ => none
 | .frz _ | .dead => none
theorem SB.Ok.mono {ρ ρ' : List Value} (h : Pre ρ ρ') {w : World} {r : Value} {s : SB} (hs : s.Ok ρ w r) : s.Ok ρ' w r := by
 cases s with
 | box t cs => obtain ⟨g, ys, h1, h2, h3⟩ := hs; exact ⟨g, ys, h1, h2, h3.mono fun _ _ => SC.Is.mono h⟩
 | ent d c l => obtain ⟨g, es, h1, h2, h3, h4, h5⟩ := hs; exact ⟨g, es, h1, h2, h3, h4, h5.mono fun _ _ q => ⟨q.1, q.2.1.mono h, q.2.2⟩⟩
 | itr k since seen last => obtain ⟨g, m, h1, h2, h3⟩ := hs; exact ⟨g, m, h1, h _ _ h2, h3⟩
 | _ => exact hs
theorem SB.Ok.move {ρ : List Value} {w w' : World} {r : Value} {s : SB} (hs : s.Ok ρ w r) (h : ∀ g, s.blk r = some g → w'.heap[g]? = w.heap[g]?) : s.Ok ρ w' r := by
 cases s with
 | box t cs => obtain ⟨g, ys, rfl, h2, h3⟩ := hs; exact ⟨g, ys, rfl, (h g rfl).trans h2, h3⟩
 | arr t xs => obtain ⟨g, rfl, h2⟩ := hs; exact ⟨g, rfl, (h g rfl).trans h2⟩
 | pre t xs => obtain ⟨g, cur, rfl, h2, h3⟩ := hs; exact ⟨g, cur, rfl, (h g rfl).trans h2, h3⟩
 | row e sz n xs =>
  refine ⟨hs.1, ?_⟩
  rcases hs.2 with h2 | ⟨g, o, cap, cur, rfl, hh, rest⟩
  ·exact .inl h2
  ·exact .inr ⟨g, o, cap, cur, rfl, (h g rfl).trans hh, rest⟩
 | byt e n xs => obtain ⟨h1, g, cap, cur, fz, rfl, h2, hh, rest⟩ := hs; exact ⟨h1, g, cap, cur, fz, rfl, h2, (h g rfl).trans hh, rest⟩
 | map d n f => obtain ⟨g, es, clock, rfl, h2, h3⟩ := hs; exact ⟨g, es, clock, rfl, (h g rfl).trans h2, h3⟩
 | ent d c l => obtain ⟨g, es, rfl, h2, h3⟩ := hs; exact ⟨g, es, rfl, (h g rfl).trans h2, h3⟩
 | itr k since seen last => obtain ⟨g, m, rfl, h2, h3⟩ := hs; exact ⟨g, m, rfl, h2, (h g rfl).trans h3⟩
 | frz x => exact hs
 | dead => trivial
theorem SB.Ok.lt {ρ : List Value} {w : World} {r : Value} {s : SB} (hs : s.Ok ρ w r) {g : Nat} (hg : s.blk r = some g) : g < w.heap.size := by
 cases s with
 | box t cs => obtain ⟨g', ys, rfl, h2, h3⟩ := hs; simp [SB.blk] at hg; subst hg; exact (Array.getElem?_eq_some_iff.1 h2).1
 | arr t xs => obtain ⟨g', rfl, h2⟩ := hs; simp [SB.blk] at hg; subst hg; exact (Array.getElem?_eq_some_iff.1 h2).1
 | pre t xs => obtain ⟨g', cur, rfl, h2, h3⟩ := hs; simp [SB.blk] at hg; subst hg; exact (Array.getElem?_eq_some_iff.1 h2).1
 | row e sz n xs =>
  rcases hs.2 with ⟨rfl, _⟩ | ⟨g', o, cap, cur, rfl, hh, _⟩
  ·simp [SB.blk, Value.ownBlock] at hg
  ·simp [SB.blk, Value.ownBlock] at hg; subst hg; exact (Array.getElem?_eq_some_iff.1 hh).1
 | byt e n xs => obtain ⟨h1, g', cap, cur, fz, rfl, h2, hh, rest⟩ := hs; simp [SB.blk, Value.ownBlock] at hg; subst hg; exact (Array.getElem?_eq_some_iff.1 hh).1
 | map d n f => obtain ⟨g', es, clock, rfl, h2, h3⟩ := hs; simp [SB.blk] at hg; subst hg; exact (Array.getElem?_eq_some_iff.1 h2).1
 | ent d c l => obtain ⟨g', es, rfl, h2, h3⟩ := hs; simp [SB.blk] at hg; subst hg; exact (Array.getElem?_eq_some_iff.1 h2).1
 | itr k since seen last => obtain ⟨g', m, rfl, h2, h3⟩ := hs; simp [SB.blk] at hg; subst hg; exact (Array.getElem?_eq_some_iff.1 h3).1
 | frz x => simp [SB.blk] at hg
 | dead => simp [SB.blk] at hg

def blkAt (ρ : List Value) (G : List SB) (k : Nat) : Option Nat :=
 match G[k]?, ρ[k]? with
 | some s, some r => s.blk r
 | _, _ => none

structure St (w0 : World) (M : Nat → Prop) (H0 : Hp) (ρ : List Value) (H : Hp) (G : List SB) (w : World) : Prop where
 os : w.os = w0.os
 tape : w.tape = w0.tape
 output : w.output = w0.output
 size : w0.heap.size ≤ w.heap.size
 old : ∀ b, b < w0.heap.size → ¬ M b → w.heap[b]? = w0.heap[b]?
 hle : H0.Le H
 hin : H.In w
 hnew : ∀ b o v, H b o = some v → H0 b o = some v ∨ w0.heap.size ≤ b ∨ M b
 len : ρ.length = G.length
 ok : ∀ (k : Nat) (s : SB) (r : Value), G[k]? = some s → ρ[k]? = some r → s.Ok ρ w r
 own : ∀ k g, blkAt ρ G k = some g → (w0.heap.size ≤ g ∨ M g) ∧ H.Out g
 inj : ∀ i j g, blkAt ρ G i = some g → blkAt ρ G j = some g → i = j

theorem blkAt_some {ρ : List Value} {G : List SB} {k g : Nat} (h : blkAt ρ G k = some g) : ∃ s r, G[k]? = some s ∧ ρ[k]? = some r ∧ s.blk r = some g := by
 unfold blkAt at h
 split at h
 ·rename_i s r h1 h2; exact ⟨s, r, h1, h2, h⟩
 ·cases h
theorem blkAt_eq {ρ : List Value} {G : List SB} {k : Nat} {s : SB} {r : Value} (h1 : G[k]? = some s) (h2 : ρ[k]? = some r) : blkAt ρ G k = s.blk r := by
 unfold blkAt; rw [h1, h2]
theorem St.at {w0 : World} {M : Nat → Prop} {H0 : Hp} {ρ : List Value} {H : Hp} {G : List SB} {w : World} (h : St w0 M H0 ρ H G w) {k : Nat} {s : SB} (hk : G[k]? = some s) : ∃ r, ρ[k]? = some r ∧ s.Ok ρ w r := by
 have hlt := (List.getElem?_eq_some_iff.1 hk).1
 have : k < ρ.length := by rw [h.len]; exact hlt
 exact ⟨ρ[k], List.getElem?_eq_getElem this, h.ok k s _ hk (List.getElem?_eq_getElem this)⟩
theorem St.lt {w0 : World} {M : Nat → Prop} {H0 : Hp} {ρ : List Value} {H : Hp} {G : List SB} {w : World} (h : St w0 M H0 ρ H G w) {k g : Nat} (hk : blkAt ρ G k = some g) : g < w.heap.size := by
 obtain ⟨s, r, h1, h2, h3⟩ := blkAt_some hk
 exact (h.ok k s r h1 h2).lt h3

theorem St.drew {w0 : World} {M : Nat → Prop} {H0 : Hp} {ρ : List Value} {H : Hp} {G : List SB} {w : World} (h : St w0 M H0 ρ H G w) (n : Nat) : St w0 M H0 ρ H G { w with drawn := n } where
 os := h.os
 tape := h.tape
 output := h.output
 size := h.size
 old := h.old
 hle := h.hle
 hin := fun b o v e => h.hin b o v e
 hnew := h.hnew
 len := h.len
 ok := fun k s r h1 h2 => (h.ok k s r h1 h2).move fun _ _ => rfl
 own := h.own
 inj := h.inj
theorem cell_of_block {w w' : World} {b o : Nat} (h : w'.heap[b]? = w.heap[b]?) : w'.cell? ⟨b, o, none⟩ = w.cell? ⟨b, o, none⟩ := by simp [World.cell?, h]
theorem block_of_cell {w : World} {b o : Nat} {v : Value} (h : w.cell? ⟨b, o, none⟩ = some v) : b < w.heap.size := by
 unfold World.cell? at h
 rcases Nat.lt_or_ge b w.heap.size with h' | h'
 ·exact h'
 ·rw [Array.getElem?_eq_none h'] at h; cases h

abbrev Fr := List (Nat × SV)
def FOk (ρ : List Value) (F : Fr) (tmps : Array Value) : Prop := ∀ i sv, (i, sv) ∈ F → ∃ v, tmps[i]? = some v ∧ sv.Is ρ v
theorem FOk.mono {ρ ρ' : List Value} (h : Pre ρ ρ') {F : Fr} {tmps : Array Value} (hf : FOk ρ F tmps) : FOk ρ' F tmps := fun i sv hi =>
 let ⟨v, h1, h2⟩ := hf i sv hi; ⟨v, h1, h2.mono h⟩
def eraseF : Fr → Nat → Fr
 | [], _ => []
 | (j, v) :: r, i => if j = i then eraseF r i else (j, v) :: eraseF r i
theorem mem_eraseF {F : Fr} {i : Nat} {x : Nat × SV} (h : x ∈ eraseF F i) : x ∈ F ∧ x.1 ≠ i := by
 induction F with
 | nil => simp [eraseF] at h
 | cons y F ih =>
  obtain ⟨j, v⟩ := y
  unfold eraseF at h
  split at h
  ·have := ih h; exact ⟨List.mem_cons_of_mem _ this.1, this.2⟩
  ·rename_i hj
   rcases List.mem_cons.1 h with rfl | h
   ·exact ⟨List.mem_cons_self, hj⟩
   ·have := ih h; exact ⟨List.mem_cons_of_mem _ this.1, this.2⟩
theorem FOk.put {ρ : List Value} {F : Fr} {tmps : Array Value} (h : FOk ρ F tmps) {i : Nat} (hi : i < tmps.size) {sv : SV} {v : Value} (hs : sv.Is ρ v) : FOk ρ ((i, sv) :: eraseF F i) (tmps.setIfInBounds i v) := by
 intro j s hj
 rcases List.mem_cons.1 hj with hj | hj
 ·injection hj with h1 h2
  subst h1 h2
  exact ⟨v, by simp [hi], hs⟩
 ·obtain ⟨hm, hne⟩ := mem_eraseF hj
  obtain ⟨u, h1, h2⟩ := h j s hm
  exact ⟨u, by rw [Array.getElem?_setIfInBounds_ne (fun e => hne e.symm)]; exact h1, h2⟩

def Gd (w0 : World) (M : Nat → Prop) : Prop := ∀ g cs, Gl g = some cs → (∃ t z, w0.heap[g]? = some (.cells cs t z)) ∧ ¬ M g
theorem St.gl {w0 : World} {M : Nat → Prop} {H0 : Hp} {ρ : List Value} {H : Hp} {G : List SB} {w : World} (h : St w0 M H0 ρ H G w) (hg : Gd w0 M) {g : Nat} {cs : Array Value} (hc : Gl g = some cs) : ∃ t z, w.heap[g]? = some (.cells cs t z) := by
 obtain ⟨⟨t, z, h1⟩, h2⟩ := hg g cs hc
 exact ⟨t, z, (h.old g (Array.getElem?_eq_some_iff.1 h1).1 h2).trans h1⟩
theorem St.gd {w0 : World} {M : Nat → Prop} {H0 : Hp} {ρ : List Value} {H : Hp} {G : List SB} {w : World} (h : St w0 M H0 ρ H G w) (hg : Gd w0 M) {M' : Nat → Prop} (hM : ∀ b, M' b → ∃ k, blkAt ρ G k = some b) : Gd w M' := by
 intro g cs hc
 refine ⟨h.gl hg hc, fun hm => ?_⟩
 obtain ⟨k, hk⟩ := hM g hm
 obtain ⟨⟨t, z, h1⟩, h2⟩ := hg g cs hc
 rcases (h.own k g hk).1 with h3 | h3
 ·have := (Array.getElem?_eq_some_iff.1 h1).1; omega
 ·exact h2 h3

inductive SE
 | ret (v : SV)
 | pan (ch : List PanicEntry)

def CallO (P : Program) (f : FuncId) (svs : List SV) (H : Hp) (G : List SB) (K : SE → Hp → List SB → Prop) : Prop :=
 ∀ (w0 : World) (M : Nat → Prop) (_ : Gd w0 M) (H0 : Hp) (ρ : List Value) (w : World) (vs : List Value), St w0 M H0 ρ H G w → All2 (SV.Is ρ) svs vs →
  Calls P f vs.toArray w fun e w' => match e with
   | .returned v => ∃ sv ρ' H' G', St w0 M H0 ρ' H' G' w' ∧ Pre ρ ρ' ∧ sv.Is ρ' v ∧ H.Le H' ∧ K (.ret sv) H' G'
   | .panicked ch => ∃ ρ' H' G', St w0 M H0 ρ' H' G' w' ∧ Pre ρ ρ' ∧ H.Le H' ∧ K (.pan ch) H' G'
   | .outgrown => False

structure CallS (P : Program) (f : FuncId) (svs : List SV) (H : Hp) (G : List SB) (K : SE → Hp → List SB → Prop) : Prop where of ::
 to : CallO P f svs H G K
theorem CallO.mono {P : Program} {f : FuncId} {svs : List SV} {H : Hp} {G : List SB} {K K' : SE → Hp → List SB → Prop} (h : CallO P f svs H G K) (hk : ∀ e H' G', H.Le H' → K e H' G' → K' e H' G') : CallO P f svs H G K' := by
 intro w0 M hgd H0 ρ w vs hs hv
 refine (h w0 M hgd H0 ρ w vs hs hv).mono fun e w' he => ?_
 cases e with
 | returned v => obtain ⟨sv, ρ', H', G', h1, h2, h3, h4, h5⟩ := he; exact ⟨sv, ρ', H', G', h1, h2, h3, h4, hk _ _ _ h4 h5⟩
 | panicked ch => obtain ⟨ρ', H', G', h1, h2, h4, h5⟩ := he; exact ⟨ρ', H', G', h1, h2, h4, hk _ _ _ h4 h5⟩
 | outgrown => exact he

end Go.Kx
namespace Go.Kx

def SC.ren (σ : List Nat) : SC → SC
 | .ptr k off => .ptr (σ.getD k 0) off
 | .self k => .self (σ.getD k 0)
 | .fn f n caps => .fn f n (caps.map fun p => (σ.getD p.1 0, p.2))
 | .val x => .val x
 | .pp A off => .pp A off
 | .cut k sz lo m => .cut (σ.getD k 0) sz lo m
 | .any => .any
def SG.ren (σ : List Nat) : SG → SG
 | .ce x => .ce (x.ren σ)
 | .ag xs => .ag (xs.map (SC.ren σ))
def SV.ren (σ : List Nat) : SV → SV
 | .si x => .si (x.ren σ)
 | .tu xs => .tu (xs.map (SG.ren σ))
def SB.ren (σ : List Nat) : SB → SB
 | .box t cs => .box t (cs.map (SC.ren σ))
 | .ent d c l => .ent d c (l.map fun p => (p.1, p.2.1.ren σ, p.2.2))
 | .itr k since seen last => .itr (σ.getD k 0) since seen last
 | s => s
def SE.ren (σ : List Nat) : SE → SE
 | .ret v => .ret (v.ren σ)
 | .pan ch => .pan ch
def SC.wf (n : Nat) : SC → Bool
 | .ptr k _ => Nat.blt k n
 | .self k => Nat.blt k n
 | .cut k _ _ _ => Nat.blt k n
 | .fn _ _ caps => caps.all fun p => Nat.blt p.1 n
 | _ => true
def SG.wf (n : Nat) : SG → Bool
 | .ce x => x.wf n
 | .ag xs => xs.all (SC.wf n)
def SV.wf (n : Nat) : SV → Bool
 | .si x => x.wf n
 | .tu xs => xs.all (SG.wf n)
def SB.wf (n : Nat) : SB → Bool
 | .box _ cs => cs.all (SC.wf n)
 | .ent _ _ l => l.all fun p => p.2.1.wf n
 | .itr k _ _ _ => Nat.blt k n
 | _ => true

theorem ren_fwd {σ : List Nat} {ρ0 ρ : List Value} (h : ∀ (k : Nat) (r : Value), ρ0[k]? = some r → ∃ k', σ[k]? = some k' ∧ ρ[k']? = some r) {c : SC} {y : Value} (hc : c.Is ρ0 y) : (c.ren σ).Is ρ y := by
 have hd : ∀ (k k' : Nat), σ[k]? = some k' → σ.getD k 0 = k' := fun k k' e => by rw [List.getD_eq_getElem?_getD, e]; rfl
 cases c with
 | val x => exact hc
 | ptr k off =>
  obtain ⟨r, h1, h2⟩ := hc
  obtain ⟨k', h3, h4⟩ := h k r h1
  exact ⟨r, by rw [hd k k' h3]; exact h4, h2⟩
 | self k =>
  obtain ⟨k', h3, h4⟩ := h k y hc
  show ρ[σ.getD k 0]? = some y
  rw [hd k k' h3]; exact h4
 | fn f n caps =>
  obtain ⟨ys, h1, h2⟩ := hc
  refine ⟨ys, h1, All2.map_left (h2.mono ?_)⟩
  rintro ⟨k, off⟩ z ⟨r, hr, hp⟩
  obtain ⟨k', h3, h4⟩ := h k r hr
  exact ⟨r, by show ρ[σ.getD k 0]? = some r; rw [hd k k' h3]; exact h4, hp⟩
 | pp A off => exact hc
 | cut k sz lo m =>
  obtain ⟨r, h1, h2⟩ := hc
  obtain ⟨k', h3, h4⟩ := h k r h1
  exact ⟨r, by rw [hd k k' h3]; exact h4, h2⟩
 | any => trivial
theorem ren_fwdG {σ : List Nat} {ρ0 ρ : List Value} (h : ∀ (k : Nat) (r : Value), ρ0[k]? = some r → ∃ k', σ[k]? = some k' ∧ ρ[k']? = some r) {c : SG} {y : Value} (hc : c.Is ρ0 y) : (c.ren σ).Is ρ y := by
 cases c with
 | ce x => exact ren_fwd h hc
 | ag xs => obtain ⟨ys, h1, h2⟩ := hc; exact ⟨ys, h1, All2.map_left (h2.mono fun _ _ => ren_fwd h)⟩
theorem ren_fwdV {σ : List Nat} {ρ0 ρ : List Value} (h : ∀ (k : Nat) (r : Value), ρ0[k]? = some r → ∃ k', σ[k]? = some k' ∧ ρ[k']? = some r) {c : SV} {y : Value} (hc : c.Is ρ0 y) : (c.ren σ).Is ρ y := by
 cases c with
 | si x => exact ren_fwdG h hc
 | tu xs => obtain ⟨ys, h1, h2⟩ := hc; exact ⟨ys, h1, All2.map_left (h2.mono fun _ _ => ren_fwdG h)⟩
theorem ren_fwdB {σ : List Nat} {ρ0 ρ : List Value} (h : ∀ (k : Nat) (r : Value), ρ0[k]? = some r → ∃ k', σ[k]? = some k' ∧ ρ[k']? = some r) {s : SB} {w : World} {r : Value} (hs : s.Ok ρ0 w r) : (s.ren σ).Ok ρ w r := by
 cases s with
 | box t cs => obtain ⟨g, ys, h1, h2, h3⟩ := hs; exact ⟨g, ys, h1, h2, All2.map_left (h3.mono fun _ _ => ren_fwd h)⟩
 | ent d c l => obtain ⟨g, es, h1, h2, h3, h4, h5⟩ := hs; exact ⟨g, es, h1, h2, h3, h4, All2.map_left (h5.mono fun _ _ q => ⟨q.1, ren_fwd h q.2.1, q.2.2⟩)⟩
 | itr k since seen last =>
  obtain ⟨g, m, h1, h2, h3⟩ := hs
  obtain ⟨k', h4, h5⟩ := h k _ h2
  refine ⟨g, m, h1, ?_, h3⟩
  rw [List.getD_eq_getElem?_getD, h4]; exact h5
 | _ => exact hs

theorem ren_bwd {σ : List Nat} {ρ0 ρ : List Value} (h : ∀ (k k' : Nat), σ[k]? = some k' → ρ0[k]? = ρ[k']?) {c : SC} {y : Value} (hw : c.wf σ.length = true) (hc : (c.ren σ).Is ρ y) : c.Is ρ0 y := by
 have hd : ∀ k : Nat, Nat.blt k σ.length = true → ρ0[k]? = ρ[σ.getD k 0]? := fun k hk => by
  have hk' : k < σ.length := by simpa using hk
  rw [h k σ[k] (List.getElem?_eq_getElem hk'), List.getD_eq_getElem?_getD, List.getElem?_eq_getElem hk']; rfl
 cases c with
 | val x => exact hc
 | ptr k off =>
  obtain ⟨r, h1, h2⟩ := hc
  exact ⟨r, by rw [hd k hw]; exact h1, h2⟩
 | self k => show ρ0[k]? = some y; rw [hd k hw]; exact hc
 | fn f n caps =>
  obtain ⟨ys, h1, h2⟩ := hc
  refine ⟨ys, h1, ?_⟩
  have h3 := h2.of_map_left
  have hw' : ∀ p ∈ caps, Nat.blt p.1 σ.length = true := List.all_eq_true.1 hw
  clear h1 h2 hw
  induction h3 with
  | nil => exact .nil
  | cons hx _ ih =>
   obtain ⟨r, hr, hp⟩ := hx
   exact .cons ⟨r, by rw [hd _ (hw' _ List.mem_cons_self)]; exact hr, hp⟩ (ih fun p hp => hw' p (List.mem_cons_of_mem _ hp))
 | pp A off => exact hc
 | cut k sz lo m =>
  obtain ⟨r, h1, h2⟩ := hc
  exact ⟨r, by rw [hd k hw]; exact h1, h2⟩
 | any => trivial
theorem all2_bwd {α : Type} {R S : α → Value → Prop} {f : α → α} {p : α → Bool} (h : ∀ c y, p c = true → R (f c) y → S c y) : ∀ {l : List α} {m : List Value}, l.all p = true → All2 R (l.map f) m → All2 S l m
 | [], _, _, h2 => by cases h2; exact .nil
 | a :: l, _, hw, h2 => by
  simp only [List.all_cons, Bool.and_eq_true] at hw
  cases h2 with | cons h3 h4 => exact .cons (h _ _ hw.1 h3) (all2_bwd h hw.2 h4)
theorem ren_bwdG {σ : List Nat} {ρ0 ρ : List Value} (h : ∀ (k k' : Nat), σ[k]? = some k' → ρ0[k]? = ρ[k']?) {c : SG} {y : Value} (hw : c.wf σ.length = true) (hc : (c.ren σ).Is ρ y) : c.Is ρ0 y := by
 cases c with
 | ce x => exact ren_bwd h hw hc
 | ag xs => obtain ⟨ys, h1, h2⟩ := hc; exact ⟨ys, h1, all2_bwd (fun _ _ => ren_bwd h) hw h2⟩
theorem ren_bwdV {σ : List Nat} {ρ0 ρ : List Value} (h : ∀ (k k' : Nat), σ[k]? = some k' → ρ0[k]? = ρ[k']?) {c : SV} {y : Value} (hw : c.wf σ.length = true) (hc : (c.ren σ).Is ρ y) : c.Is ρ0 y := by
 cases c with
 | si x => exact ren_bwdG h hw hc
 | tu xs => obtain ⟨ys, h1, h2⟩ := hc; exact ⟨ys, h1, all2_bwd (fun _ _ => ren_bwdG h) hw h2⟩
theorem ent_bwd {ρ ρ0 : List Value} {f : SC → SC} {p : SC → Bool} (h : ∀ c y, p c = true → (f c).Is ρ y → c.Is ρ0 y) : ∀ {l : List (Value × SC × Nat)} {m : List MapEntry}, (l.all fun q => p q.2.1) = true → All2 (EntOne ρ) (l.map fun q => (q.1, f q.2.1, q.2.2)) m → All2 (EntOne ρ0) l m
 | [], _, _, h2 => by cases h2; exact .nil
 | a :: l, _, hw, h2 => by
  simp only [List.all_cons, Bool.and_eq_true] at hw
  cases h2 with | cons h3 h4 => exact .cons ⟨h3.1, h _ _ hw.1 h3.2.1, h3.2.2⟩ (ent_bwd h hw.2 h4)
theorem ren_bwdB {σ : List Nat} {ρ0 ρ : List Value} (h : ∀ (k k' : Nat), σ[k]? = some k' → ρ0[k]? = ρ[k']?) {s : SB} {w : World} {r : Value} (hw : s.wf σ.length = true) (hs : (s.ren σ).Ok ρ w r) : s.Ok ρ0 w r := by
 cases s with
 | box t cs => obtain ⟨g, ys, h1, h2, h3⟩ := hs; exact ⟨g, ys, h1, h2, all2_bwd (fun _ _ => ren_bwd h) hw h3⟩
 | ent d c l => obtain ⟨g, es, h1, h2, h3, h4, h5⟩ := hs; exact ⟨g, es, h1, h2, h3, h4, ent_bwd (fun _ _ => ren_bwd h) hw h5⟩
 | itr k since seen last =>
  obtain ⟨g, m, h1, h2, h3⟩ := hs
  refine ⟨g, m, h1, ?_, h3⟩
  have hk' : k < σ.length := by simpa [SB.wf] using hw
  rw [h k σ[k] (List.getElem?_eq_getElem hk')]
  rw [List.getD_eq_getElem?_getD, List.getElem?_eq_getElem hk'] at h2
  exact h2
 | _ => exact hs
theorem blk_ren (σ : List Nat) (s : SB) (r : Value) : (s.ren σ).blk r = s.blk r := by cases s <;> rfl

def mergeG : List SB → List Nat → List SB → List SB
 | G, _, [] => G
 | G, k :: σ, s :: L => mergeG (G.set k s) σ L
 | G, [], s :: L => mergeG (G ++ [s]) [] L
def newIds (n m m' : Nat) : List Nat := (List.range (m' - m)).map (n + ·)

theorem mergeG_nil (G L : List SB) : mergeG G [] L = G ++ L := by
 induction L generalizing G with
 | nil => simp [mergeG]
 | cons s L ih => simp [mergeG, ih]
theorem mergeG_length : ∀ (σ : List Nat) (G L : List SB), σ.length ≤ L.length → (∀ k ∈ σ, k < G.length) → (mergeG G σ L).length = G.length + (L.length - σ.length)
 | [], G, L, _, _ => by rw [mergeG_nil]; simp
 | k :: σ, G, s :: L, hl, hk => by
  simp only [mergeG]
  rw [mergeG_length σ _ L (by simpa using hl) (fun k' h' => by simpa using hk k' (List.mem_cons_of_mem _ h'))]
  simp
 | _ :: _, _, [], hl, _ => by simp at hl
theorem mergeG_at : ∀ (σ : List Nat) (G L : List SB), σ.length ≤ L.length → (∀ k ∈ σ, k < G.length) → σ.Nodup → ∀ (i k : Nat), σ[i]? = some k → (mergeG G σ L)[k]? = L[i]?
 | [], _, _, _, _, _, i, k, h => by simp at h
 | k0 :: σ, G, [], hl, _, _, _, _, _ => by simp at hl
 | k0 :: σ, G, s :: L, hl, hk, hn, i, k, h => by
  simp only [mergeG]
  have hn' := List.nodup_cons.1 hn
  have hk' : ∀ k ∈ σ, k < (G.set k0 s).length := fun k' h' => by simpa using hk k' (List.mem_cons_of_mem _ h')
  cases i with
  | zero =>
   simp at h; subst h
   have hot : ∀ (σ : List Nat) (G L : List SB), k0 ∉ σ → k0 < G.length → σ.length ≤ L.length → (mergeG G σ L)[k0]? = G[k0]? := by
    intro σ
    induction σ with
    | nil => intro G L _ hlt _; rw [mergeG_nil, List.getElem?_append_left hlt]
    | cons a σ ih =>
     intro G L hnot hlt hll
     cases L with
     | nil => simp at hll
     | cons s L =>
      simp only [mergeG]
      rw [ih _ _ (fun h => hnot (List.mem_cons_of_mem _ h)) (by simpa using hlt) (by simpa using hll), List.getElem?_set_ne (fun e => hnot (by rw [← e]; exact List.mem_cons_self))]
   rw [hot σ _ L hn'.1 (by simpa using hk k0 List.mem_cons_self) (by simpa using hl)]
   simp [hk k0 List.mem_cons_self]
  | succ i =>
   rw [mergeG_at σ _ L (by simpa using hl) hk' hn'.2 i k (by simpa using h)]
   simp
theorem mergeG_other : ∀ (σ : List Nat) (G L : List SB) (k0 : Nat), k0 ∉ σ → k0 < G.length → σ.length ≤ L.length → (mergeG G σ L)[k0]? = G[k0]?
 | [], G, L, k0, _, hlt, _ => by rw [mergeG_nil, List.getElem?_append_left hlt]
 | a :: σ, G, [], _, _, _, hll => by simp at hll
 | a :: σ, G, s :: L, k0, hnot, hlt, hll => by
  simp only [mergeG]
  rw [mergeG_other σ _ L k0 (fun h => hnot (List.mem_cons_of_mem _ h)) (by simpa using hlt) (by simpa using hll), List.getElem?_set_ne (fun e => hnot (by rw [← e]; exact List.mem_cons_self))]
theorem mergeG_new : ∀ (σ : List Nat) (G L : List SB), σ.length ≤ L.length → (∀ k ∈ σ, k < G.length) → ∀ j, (mergeG G σ L)[G.length + j]? = L[σ.length + j]?
 | [], G, L, _, _, j => by rw [mergeG_nil, List.getElem?_append_right (by omega)]; simp
 | a :: σ, G, [], hll, _, _ => by simp at hll
 | a :: σ, G, s :: L, hll, hk, j => by
  simp only [mergeG]
  have := mergeG_new σ (G.set a s) L (by simpa using hll) (fun k' h' => by simpa using hk k' (List.mem_cons_of_mem _ h')) j
  rw [List.length_set] at this
  rw [this, List.length_cons, show σ.length + 1 + j = (σ.length + j) + 1 by omega, List.getElem?_cons_succ]

theorem getElem?_newIds {n m m' j : Nat} (h : j < m' - m) : (newIds n m m')[j]? = some (n + j) := by simp [newIds, h]

theorem CallO.frame {P : Program} {f : FuncId} {svs0 : List SV} {H : Hp} {G0 : List SB} {K0 : SE → Hp → List SB → Prop} (h : CallO P f svs0 H G0 K0) (σ : List Nat) {G : List SB}
  (hl : σ.length = G0.length) (hG : ∀ (i : Nat) (s : SB), G0[i]? = some s → ∃ k, σ[i]? = some k ∧ G[k]? = some (s.ren σ)) (hnd : σ.Nodup)
  (hwG : G0.all (SB.wf σ.length) = true) (hwV : svs0.all (SV.wf σ.length) = true) {K : SE → Hp → List SB → Prop}
  (hK : ∀ e H' G0', H.Le H' → K0 e H' G0' → K (e.ren (σ ++ newIds G.length G0.length G0'.length)) H' (mergeG G σ (G0'.map (SB.ren (σ ++ newIds G.length G0.length G0'.length))))) :
  CallO P f (svs0.map (SV.ren σ)) H G K := by
 intro w0 M hgd H0 ρ w vs hs hv
 have hσlt : ∀ k ∈ σ, k < G.length := fun k hk => by
  obtain ⟨i, hi, rfl⟩ := List.getElem_of_mem hk
  obtain ⟨k', h1, h2⟩ := hG i G0[i] (List.getElem?_eq_getElem (by omega))
  rw [List.getElem?_eq_getElem hi] at h1
  injection h1 with h1
  rw [← h1] at h2
  exact (List.getElem?_eq_some_iff.1 h2).1
 -- the callee's own view
 let ρ0 : List Value := σ.map fun k => ρ.getD k (.tuple #[])
 have hρ0 : ∀ (k k' : Nat), σ[k]? = some k' → ρ0[k]? = ρ[k']? := fun k k' e => by
  have hlt : k' < ρ.length := by rw [hs.len]; exact hσlt k' (List.mem_of_getElem? e)
  simp [ρ0, e, List.getD_eq_getElem?_getD, List.getElem?_eq_getElem hlt]
 have hρ0l : ρ0.length = G0.length := by simp [ρ0, hl]
 let M' : Nat → Prop := fun b => ∃ k ∈ σ, blkAt ρ G k = some b
 have hblk : ∀ (i k : Nat), σ[i]? = some k → blkAt ρ0 G0 i = blkAt ρ G k := fun i k e => by
  have hi : i < G0.length := by rw [← hl]; exact (List.getElem?_eq_some_iff.1 e).1
  obtain ⟨k', h1, h2⟩ := hG i G0[i] (List.getElem?_eq_getElem hi)
  rw [e] at h1; injection h1 with h1; subst h1
  have hlt : k < ρ.length := by rw [hs.len]; exact (List.getElem?_eq_some_iff.1 h2).1
  rw [blkAt_eq (List.getElem?_eq_getElem hi) ((hρ0 i k e).trans (List.getElem?_eq_getElem hlt)), blkAt_eq h2 (List.getElem?_eq_getElem hlt), blk_ren]
 have hat : ∀ i : Nat, i < G0.length → ∃ k, σ[i]? = some k := fun i hi => ⟨σ[i], List.getElem?_eq_getElem (by omega)⟩
 have hs0 : St w M' H ρ0 H G0 w := by
  refine ⟨rfl, rfl, rfl, Nat.le_refl _, fun _ _ _ => rfl, .refl _, hs.hin, fun _ _ _ e => .inl e, hρ0l, ?_, ?_, ?_⟩
  ·intro i s r h1 h2
   obtain ⟨k, hk, h3⟩ := hG i s h1
   rw [hρ0 i k hk] at h2
   exact ren_bwdB hρ0 (List.all_eq_true.1 hwG _ (List.mem_of_getElem? h1)) (hs.ok k _ r h3 h2)
  ·intro i g hg
   have hi : i < G0.length := by
    obtain ⟨s, r, h1, _, _⟩ := blkAt_some hg
    exact (List.getElem?_eq_some_iff.1 h1).1
   obtain ⟨k, hk⟩ := hat i hi
   rw [hblk i k hk] at hg
   exact ⟨.inr ⟨k, List.mem_of_getElem? hk, hg⟩, (hs.own k g hg).2⟩
  ·intro i j g hg hg'
   have hi : i < G0.length := by
    obtain ⟨s, r, h1, _, _⟩ := blkAt_some hg
    exact (List.getElem?_eq_some_iff.1 h1).1
   have hj : j < G0.length := by
    obtain ⟨s, r, h1, _, _⟩ := blkAt_some hg'
    exact (List.getElem?_eq_some_iff.1 h1).1
   obtain ⟨k, hk⟩ := hat i hi
   obtain ⟨k', hk'⟩ := hat j hj
   rw [hblk i k hk] at hg
   rw [hblk j k' hk'] at hg'
   have := hs.inj k k' g hg hg'
   subst this
   exact (List.getElem?_inj (by omega) hnd).1 (hk.trans hk'.symm)
 have hv0 : All2 (SV.Is ρ0) svs0 vs := all2_bwd (fun _ _ => ren_bwdV hρ0) hwV hv
 -- what the call leaves, seen by the caller
 have back : ∀ (ρ0' : List Value) (H' : Hp) (G0' : List SB) (w' : World), St w M' H ρ0' H' G0' w' → Pre ρ0 ρ0' → H.Le H' →
   ∃ ρ', St w0 M H0 ρ' H' (mergeG G σ (G0'.map (SB.ren (σ ++ newIds G.length G0.length G0'.length)))) w' ∧ Pre ρ ρ' ∧
    (∀ (k : Nat) (r : Value), ρ0'[k]? = some r → ∃ k', (σ ++ newIds G.length G0.length G0'.length)[k]? = some k' ∧ ρ'[k']? = some r) := by
  intro ρ0' H' G0' w' h0 hp hle
  have hlen0 : G0.length ≤ G0'.length := by
   rw [← hρ0l, ← h0.len]
   rcases Nat.lt_or_ge ρ0'.length ρ0.length with hlt | hge
   ·have := hp ρ0'.length ρ0[ρ0'.length] (List.getElem?_eq_getElem hlt)
    simp at this
   ·exact hge
  let ρ' := ρ ++ ρ0'.drop G0.length
  have hfw : ∀ (k : Nat) (r : Value), ρ0'[k]? = some r → ∃ k', (σ ++ newIds G.length G0.length G0'.length)[k]? = some k' ∧ ρ'[k']? = some r := by
   intro k r hk
   have hkl := (List.getElem?_eq_some_iff.1 hk).1
   rw [h0.len] at hkl
   rcases Nat.lt_or_ge k G0.length with hlt | hge
   ·obtain ⟨k', hk'⟩ := hat k hlt
    refine ⟨k', by rw [List.getElem?_append_left (by omega)]; exact hk', ?_⟩
    have hlt' : k' < ρ.length := by rw [hs.len]; exact hσlt k' (List.mem_of_getElem? hk')
    have h1 : ρ0[k]? = some ρ[k'] := (hρ0 k k' hk').trans (List.getElem?_eq_getElem hlt')
    have h2 := hp k _ h1
    rw [hk] at h2
    rw [List.getElem?_append_left hlt', List.getElem?_eq_getElem hlt', ← h2]
   ·refine ⟨G.length + (k - G0.length), ?_, ?_⟩
    ·rw [List.getElem?_append_right (by omega), hl, getElem?_newIds (by omega)]
    ·show (ρ ++ ρ0'.drop G0.length)[G.length + (k - G0.length)]? = some r
     rw [List.getElem?_append_right (by rw [hs.len]; omega), hs.len, show G.length + (k - G0.length) - G.length = k - G0.length by omega, List.getElem?_drop, show G0.length + (k - G0.length) = k by omega]
     exact hk
  have hml : (mergeG G σ (G0'.map (SB.ren (σ ++ newIds G.length G0.length G0'.length)))).length = G.length + (G0'.length - G0.length) := by
   rw [mergeG_length σ _ _ (by simp; omega) hσlt, List.length_map, hl]
  -- where a place of the merged blocks comes from
  have hplace : ∀ (k : Nat), k < (mergeG G σ (G0'.map (SB.ren (σ ++ newIds G.length G0.length G0'.length)))).length →
    (∃ i, i < G0'.length ∧ (σ ++ newIds G.length G0.length G0'.length)[i]? = some k ∧ (mergeG G σ (G0'.map (SB.ren (σ ++ newIds G.length G0.length G0'.length))))[k]? = (G0'[i]?).map (SB.ren (σ ++ newIds G.length G0.length G0'.length)) ∧ ρ'[k]? = ρ0'[i]?) ∨
    (k ∉ σ ∧ k < G.length ∧ (mergeG G σ (G0'.map (SB.ren (σ ++ newIds G.length G0.length G0'.length))))[k]? = G[k]? ∧ ρ'[k]? = ρ[k]?) := by
   intro k hk
   rw [hml] at hk
   by_cases hkσ : k ∈ σ
   ·obtain ⟨i, hi, rfl⟩ := List.getElem_of_mem hkσ
    have hi' : σ[i]? = some σ[i] := List.getElem?_eq_getElem hi
    refine .inl ⟨i, by omega, by rw [List.getElem?_append_left hi]; exact hi', ?_, ?_⟩
    ·rw [mergeG_at σ _ _ (by simp; omega) hσlt hnd i _ hi', List.getElem?_map]
    ·have hlt' : σ[i] < ρ.length := by rw [hs.len]; exact hσlt _ hkσ
     rw [List.getElem?_append_left hlt', List.getElem?_eq_getElem hlt']
     exact (hp i _ ((hρ0 i _ hi').trans (List.getElem?_eq_getElem hlt'))).symm
   ·rcases Nat.lt_or_ge k G.length with hlt | hge
    ·refine .inr ⟨hkσ, hlt, mergeG_other σ _ _ k hkσ hlt (by simp; omega), ?_⟩
     rw [List.getElem?_append_left (by rw [hs.len]; exact hlt)]
    ·refine .inl ⟨G0.length + (k - G.length), by omega, ?_, ?_, ?_⟩
     ·rw [List.getElem?_append_right (by omega), hl, show G0.length + (k - G.length) - G0.length = k - G.length by omega, getElem?_newIds (by omega)]
      congr 1; omega
     ·have := mergeG_new σ G (G0'.map (SB.ren (σ ++ newIds G.length G0.length G0'.length))) (by simp; omega) hσlt (k - G.length)
      rw [show G.length + (k - G.length) = k by omega, hl] at this
      rw [this, List.getElem?_map]
     ·show (ρ ++ ρ0'.drop G0.length)[k]? = _
      rw [List.getElem?_append_right (by rw [hs.len]; exact hge), hs.len, List.getElem?_drop]
  have hbm : ∀ (k g : Nat), blkAt ρ' (mergeG G σ (G0'.map (SB.ren (σ ++ newIds G.length G0.length G0'.length)))) k = some g →
    (∃ i, (σ ++ newIds G.length G0.length G0'.length)[i]? = some k ∧ blkAt ρ0' G0' i = some g) ∨ (k ∉ σ ∧ blkAt ρ G k = some g) := by
   intro k g hg
   obtain ⟨s, r, h1, h2, h3⟩ := blkAt_some hg
   rcases hplace k (List.getElem?_eq_some_iff.1 h1).1 with ⟨i, _, hi, e1, e2⟩ | ⟨hn, _, e1, e2⟩
   ·left
    rw [h1] at e1
    obtain ⟨s', hs', hr'⟩ := Option.map_eq_some_iff.1 e1.symm
    refine ⟨i, hi, ?_⟩
    rw [blkAt_eq hs' (e2.symm.trans h2), ← blk_ren, hr']
    exact h3
   ·right
    exact ⟨hn, by rw [blkAt_eq (e1.symm.trans h1) (e2.symm.trans h2)]; exact h3⟩
  have hnotM : ∀ (k g : Nat), k ∉ σ → blkAt ρ G k = some g → ¬ M' g := fun k g hk hg ⟨k', hk', hg'⟩ => hk (by rw [hs.inj k k' g hg hg']; exact hk')
  have hM'own : ∀ b, M' b → (w0.heap.size ≤ b ∨ M b) ∧ H.Out b := fun b ⟨k, _, hg⟩ => hs.own k b hg
  refine ⟨ρ', ⟨h0.os.trans hs.os, h0.tape.trans hs.tape, h0.output.trans hs.output, Nat.le_trans hs.size h0.size, ?_, hs.hle.trans hle, h0.hin, ?_, ?_, ?_, ?_, ?_⟩, Pre.append _ _, hfw⟩
  ·intro b hb hM
   rw [h0.old b (Nat.lt_of_lt_of_le hb hs.size) (fun hm => by
    rcases (hM'own b hm).1 with h | h
    ·omega
    ·exact hM h), hs.old b hb hM]
  ·intro b o v e
   rcases h0.hnew b o v e with e | e | e
   ·exact hs.hnew b o v e
   ·exact .inr (.inl (Nat.le_trans hs.size e))
   ·exact .inr (hM'own b e).1
  ·rw [hml]
   show (ρ ++ ρ0'.drop G0.length).length = _
   rw [List.length_append, List.length_drop, hs.len, h0.len]
  ·intro k s r h1 h2
   rcases hplace k (List.getElem?_eq_some_iff.1 h1).1 with ⟨i, _, hi, e1, e2⟩ | ⟨hn, hlt, e1, e2⟩
   ·rw [h1] at e1
    obtain ⟨s', hs', rfl⟩ := Option.map_eq_some_iff.1 e1.symm
    exact ren_fwdB hfw (h0.ok i s' r hs' (e2.symm.trans h2))
   ·have hok := hs.ok k s r (e1.symm.trans h1) (e2.symm.trans h2)
    refine (hok.move fun g hg => ?_).mono (Pre.append _ _)
    have hg' : blkAt ρ G k = some g := by rw [blkAt_eq (e1.symm.trans h1) (e2.symm.trans h2)]; exact hg
    exact h0.old g (hs.lt hg') (hnotM k g hn hg')
  ·intro k g hg
   rcases hbm k g hg with ⟨i, _, hg'⟩ | ⟨hn, hg'⟩
   ·obtain ⟨ho, hout⟩ := h0.own i g hg'
    refine ⟨?_, hout⟩
    rcases ho with ho | ho
    ·exact .inl (Nat.le_trans hs.size ho)
    ·exact (hM'own g ho).1
   ·refine ⟨(hs.own k g hg').1, fun o => ?_⟩
    cases e : H' g o with
    | none => rfl
    | some v =>
     rcases h0.hnew g o v e with e | e | e
     ·rw [(hs.own k g hg').2 o] at e; cases e
     ·have := hs.lt hg'; omega
     ·exact absurd e (hnotM k g hn hg')
  ·intro i j g hg hg'
   rcases hbm i g hg with ⟨a, ha, h1⟩ | ⟨hn, h1⟩ <;> rcases hbm j g hg' with ⟨b, hb, h2⟩ | ⟨hn', h2⟩
   ·have := h0.inj a b g h1 h2
    subst this
    rw [ha] at hb; exact Option.some.inj hb
   ·exfalso
    rcases (h0.own a g h1).1 with h | h
    ·have := hs.lt h2; omega
    ·exact hnotM j g hn' h2 h
   ·exfalso
    rcases (h0.own b g h2).1 with h | h
    ·have := hs.lt h1; omega
    ·exact hnotM i g hn h1 h
   ·exact hs.inj i j g h1 h2
 refine (h w M' (hs.gd hgd fun b ⟨k, _, hk⟩ => ⟨k, hk⟩) H ρ0 w vs hs0 hv0).mono fun e w' he => ?_
 cases e with
 | returned v =>
  obtain ⟨sv, ρ0', H', G0', h1, h2, h3, h4, h5⟩ := he
  obtain ⟨ρ', a1, a2, a3⟩ := back ρ0' H' G0' w' h1 h2 h4
  exact ⟨_, ρ', H', _, a1, a2, ren_fwdV a3 h3, h4, hK _ _ _ h4 h5⟩
 | panicked ch =>
  obtain ⟨ρ0', H', G0', h1, h2, h4, h5⟩ := he
  obtain ⟨ρ', a1, a2, a3⟩ := back ρ0' H' G0' w' h1 h2 h4
  exact ⟨ρ', H', _, a1, a2, h4, hK _ _ _ h4 h5⟩
 | outgrown => exact he

theorem CallO.pure_ {P : Program} {f : FuncId} {svs0 : List SV} {H : Hp} {K0 : SE → Hp → Prop} (h : CallO P f svs0 H [] fun e H' G' => G' = [] ∧ K0 e H') (hwV : svs0.all (SV.wf 0) = true) {G : List SB} {K : SE → Hp → List SB → Prop}
  (hren : svs0.map (SV.ren []) = svs0) (hK : ∀ e H', H.Le H' → K0 e H' → K (e.ren []) H' G) : CallO P f svs0 H G K := by
 have := CallO.frame (G := G) (K := K) h [] rfl (fun i s hi => by simp at hi) List.nodup_nil rfl hwV (fun e H' G0' hle ⟨hg, hk⟩ => by subst hg; exact hK e H' hle hk)
 rwa [hren] at this

end Go.Kx
namespace Go.Kx

inductive Z
 | b | i (k : IntKind) | s | p | sl | m | fn | ifc | ch
def Z.val : Z → Value
 | .b => .bool false
 | .i k => .int k 0
 | .s => .string ⟨#[]⟩
 | .p => .pointer none
 | .sl => .slice none 0 0
 | .m => .map none
 | .fn => .nilFunc
 | .ifc => .nilIface
 | .ch => .chan none
inductive TK
 | bool | int (k : IntKind) | string | ptr (e : TypeId) | slice (e : TypeId) | map (k e : TypeId) | func | ifc
 | st (fs : List (Nat × TypeId × Nat)) | ar (n : Nat) (e : TypeId) (sz : Nat) | other
structure TI where
 k : TK
 agg : Bool
 size : Nat
 bytes : Nat
 zero : List Z
abbrev Tab := List (Nat × TI)

def zOf : Value → Option Z
 | .bool false => some .b
 | .int k (.ofNat 0) => some (.i k)
 | .string ⟨⟨[]⟩⟩ => some .s
 | .pointer none => some .p
 | .slice none 0 0 => some .sl
 | .map none => some .m
 | .nilFunc => some .fn
 | .nilIface => some .ifc
 | .chan none => some .ch
 | _ => none
def tkOf (P : Program) : TypeDesc → Option (TK × Bool)
 | .bool => some (.bool, false)
 | .int k => some (.int k, false)
 | .string => some (.string, false)
 | .pointer e => some (.ptr e, false)
 | .slice e => some (.slice e, false)
 | .map k e => some (.map k e, false)
 | .func .. => some (.func, false)
 | .interface _ => some (.ifc, false)
 | .struct fs => (fs.toList.mapM fun f => (P.info? f.type).map fun i => (f.offset, f.type, i.size)).map fun l => (.st l, true)
 | .array n e => (P.info? e).map fun i => (.ar n e i.size, true)
 | _ => some (.other, false)
def isAggV : Value → Bool
 | .agg _ => true
 | _ => false
def tiOf (P : Program) (t : TypeId) : Option TI :=
 match P.info? t, P.underlying t with
 | some i, some d => match i.zero, tkOf P d with
  | some z, some k => match z.cells.toList.mapM zOf with
   | some zs => if zs.length = i.size ∧ isAggV z = k.2 then some ⟨k.1, k.2, i.size, i.bytes, zs⟩ else none
   | none => none
  | _, _ => none
 | _, _ => none
def mkTab (P : Program) (ts : List TypeId) : Tab := ts.filterMap fun t => (tiOf P t).map fun i => (t, i)

theorem zOf_val {v : Value} {z : Z} (h : zOf v = some z) : v = z.val := by
 unfold zOf at h
 split at h <;> first | (injection h with h; subst h; rfl) | cases h
theorem mapM_zOf : ∀ {l : List Value} {zs : List Z}, l.mapM zOf = some zs → l = zs.map Z.val
 | [], zs, h => by simp at h; subst h; rfl
 | v :: l, zs, h => by
  rw [List.mapM_cons] at h
  cases hz : zOf v with
  | none => simp [hz] at h
  | some z =>
   cases hl : l.mapM zOf with
   | none => simp [hz, hl] at h
   | some zs' =>
    simp [hz, hl] at h
    subst h
    simp [← zOf_val hz, ← mapM_zOf hl]

structure TOk (P : Program) (t : TypeId) (ti : TI) : Prop where
 info : ∃ i z, P.info? t = some i ∧ i.size = ti.size ∧ i.bytes = ti.bytes ∧ i.zero = some z ∧ z.cells.toList = ti.zero.map Z.val
 desc : ∃ d, P.underlying t = some d ∧ tkOf P d = some (ti.k, ti.agg)
 zlen : ti.zero.length = ti.size
 zagg : ∃ i z, P.info? t = some i ∧ i.zero = some z ∧ isAggV z = ti.agg
theorem tiOf_ok {P : Program} {t : TypeId} {ti : TI} (h : tiOf P t = some ti) : TOk P t ti := by
 unfold tiOf at h
 split at h
 ·rename_i i d hi hd
  split at h
  ·rename_i z k hz hk
   split at h
   ·rename_i zs h1
    split at h
    ·rename_i hl
     injection h with h
     subst h
     exact ⟨⟨i, z, hi, rfl, rfl, hz, mapM_zOf h1⟩, ⟨d, hd, hk⟩, hl.1, i, z, hi, hz, hl.2⟩
    ·cases h
   ·cases h
  ·cases h
 ·cases h
def TabOk (P : Program) (T : Tab) : Prop := ∀ t ti, (t, ti) ∈ T → TOk P t ti
theorem tabOk_mk {P : Program} {ts : List TypeId} {T : Tab} (h : T = mkTab P ts) : TabOk P T := by
 subst h
 intro t ti hm
 obtain ⟨t', _, ht⟩ := List.mem_filterMap.1 hm
 obtain ⟨i, h1, h2⟩ := Option.map_eq_some_iff.1 ht
 injection h2 with h2 h3
 subst h2 h3
 exact tiOf_ok h1
def tabX : Tab → TypeId → (TI → Prop) → Prop
 | [], _, _ => False
 | (j, ti) :: r, t, K => match Nat.beq j t with
  | true => K ti
  | false => tabX r t K
theorem tabX_ok {P : Program} {T : Tab} (hT : TabOk P T) {t : TypeId} {K : TI → Prop} (h : tabX T t K) : ∃ ti, TOk P t ti ∧ K ti := by
 suffices H : ∀ T' : Tab, (∀ x ∈ T', x ∈ T) → tabX T' t K → ∃ ti, TOk P t ti ∧ K ti from H T (fun _ h => h) h
 intro T'
 induction T' with
 | nil => intro _ h; exact h.elim
 | cons x r ih =>
  obtain ⟨j, ti⟩ := x
  intro hm hx
  unfold tabX at hx
  split at hx
  ·rename_i hj
   have : j = t := Nat.eq_of_beq_eq_true hj
   subst this
   exact ⟨ti, hT _ _ (hm _ List.mem_cons_self), hx⟩
  ·exact ih (fun y hy => hm y (List.mem_cons_of_mem _ hy)) hx

section
variable {P : Program} {t : TypeId} {ti : TI}
theorem TOk.typeInfo (h : TOk P t ti) (w : World) : ∃ i z, (Go.typeInfo t).run P w = .ok i w ∧ i.size = ti.size ∧ i.bytes = ti.bytes ∧ i.zero = some z ∧ z.cells.toList = ti.zero.map Z.val := by
 obtain ⟨i, z, hi, r⟩ := h.info
 exact ⟨i, z, by simp [Go.typeInfo, program, Sem.run, hi], r⟩
theorem TOk.sizeOf (h : TOk P t ti) (w : World) : (Go.sizeOf t).run P w = .ok ti.size w := by
 obtain ⟨i, z, hi, hs, _⟩ := h.info
 simp [Go.sizeOf, Go.typeInfo, program, Sem.run, hi, hs]
theorem TOk.zeroVal (h : TOk P t ti) : ∃ z, (∀ w, (Go.zeroValue t).run P w = .ok z w) ∧ z.cells.toList = ti.zero.map Z.val ∧ isAggV z = ti.agg := by
 obtain ⟨i, z, hi, _, _, hz, hc⟩ := h.info
 obtain ⟨i', z', hi', hz', ha⟩ := h.zagg
 rw [hi] at hi'; injection hi' with hi'; subst hi'
 rw [hz] at hz'; injection hz' with hz'; subst hz'
 exact ⟨z, fun w => by simp [Go.zeroValue, Go.typeInfo, program, Sem.run, hi, hz], hc, ha⟩
theorem TOk.isAgg (h : TOk P t ti) (w : World) : (Go.isAgg t).run P w = .ok ti.agg w := by
 obtain ⟨d, hd, he⟩ := h.desc
 simp only [Go.isAgg, Go.underlying, program, Sem.run_bind]
 cases d with
 | struct fs =>
  obtain ⟨l, _, h2⟩ := Option.map_eq_some_iff.1 he
  injection h2 with _ h2
  simp [Sem.run, hd, ← h2]
 | array n e =>
  obtain ⟨l, _, h2⟩ := Option.map_eq_some_iff.1 he
  injection h2 with _ h2
  simp [Sem.run, hd, ← h2]
 | _ => simp [tkOf] at he; simp [Sem.run, hd, he]
theorem TOk.cells (h : TOk P t ti) : P.cellsOf t = ti.size := by
 obtain ⟨i, z, hi, hs, _⟩ := h.info
 simp [Program.cellsOf, hi, hs]
theorem TOk.infoSize (h : TOk P t ti) : (P.info? t).map (·.size) = some ti.size := by
 obtain ⟨i, z, hi, hs, _⟩ := h.info
 simp [hi, hs]
theorem TOk.int {k : IntKind} (h : TOk P t ti) (hk : ti.k = .int k) : P.underlying t = some (.int k) := by
 obtain ⟨d, hd, he⟩ := h.desc
 rw [hk] at he
 cases d <;> simp [tkOf] at he
 rw [hd, he.1]
theorem TOk.string (h : TOk P t ti) (hk : ti.k = .string) : P.underlying t = some .string := by
 obtain ⟨d, hd, he⟩ := h.desc
 rw [hk] at he
 cases d <;> simp [tkOf] at he
 exact hd
theorem TOk.bool (h : TOk P t ti) (hk : ti.k = .bool) : P.underlying t = some .bool := by
 obtain ⟨d, hd, he⟩ := h.desc
 rw [hk] at he
 cases d <;> simp [tkOf] at he
 exact hd
theorem TOk.slice {e : TypeId} (h : TOk P t ti) (hk : ti.k = .slice e) : P.underlying t = some (.slice e) := by
 obtain ⟨d, hd, he⟩ := h.desc
 rw [hk] at he
 cases d <;> simp [tkOf] at he
 rw [hd, he.1]
theorem TOk.ptr {e : TypeId} (h : TOk P t ti) (hk : ti.k = .ptr e) : P.underlying t = some (.pointer e) := by
 obtain ⟨d, hd, he⟩ := h.desc
 rw [hk] at he
 cases d <;> simp [tkOf] at he
 rw [hd, he.1]
theorem TOk.func (h : TOk P t ti) (hk : ti.k = .func) : ∃ a b c, P.underlying t = some (.func a b c) := by
 obtain ⟨d, hd, he⟩ := h.desc
 rw [hk] at he
 cases d <;> simp [tkOf] at he
 exact ⟨_, _, _, hd⟩
theorem TOk.ifc (h : TOk P t ti) (hk : ti.k = .ifc) : ∃ m, P.underlying t = some (.interface m) := by
 obtain ⟨d, hd, he⟩ := h.desc
 rw [hk] at he
 cases d <;> simp [tkOf] at he
 exact ⟨_, hd⟩
theorem TOk.map {k e : TypeId} (h : TOk P t ti) (hk : ti.k = .map k e) : P.underlying t = some (.map k e) := by
 obtain ⟨d, hd, he⟩ := h.desc
 rw [hk] at he
 cases d <;> simp [tkOf] at he
 rw [hd, he.1.1, he.1.2]
theorem TOk.array {n : Nat} {e : TypeId} {sz : Nat} (h : TOk P t ti) (hk : ti.k = .ar n e sz) : P.underlying t = some (.array n e) ∧ ∃ i, P.info? e = some i ∧ i.size = sz := by
 obtain ⟨d, hd, he⟩ := h.desc
 rw [hk] at he
 cases d <;> simp [tkOf] at he
 obtain ⟨i, h1, ⟨rfl, rfl, rfl⟩, _⟩ := he
 exact ⟨hd, i, h1, rfl⟩
theorem TOk.struct {fs : List (Nat × TypeId × Nat)} (h : TOk P t ti) (hk : ti.k = .st fs) : ∃ fields : Array Field, P.underlying t = some (.struct fields) ∧ fields.toList.mapM (fun f => (P.info? f.type).map fun i => (f.offset, f.type, i.size)) = some fs := by
 obtain ⟨d, hd, he⟩ := h.desc
 rw [hk] at he
 cases d <;> simp [tkOf] at he
 obtain ⟨l, h1, rfl, _⟩ := he
 exact ⟨_, hd, h1⟩
theorem mapM_get {α β : Type} {f : α → Option β} : ∀ {l : List α} {r : List β}, l.mapM f = some r → ∀ {i : Nat} {b : β}, r[i]? = some b → ∃ a, l[i]? = some a ∧ f a = some b
 | [], r, h, i, b, hb => by simp at h; subst h; simp at hb
 | a :: l, r, h, i, b, hb => by
  rw [List.mapM_cons] at h
  cases ha : f a with
  | none => simp [ha] at h
  | some x =>
   cases hl : l.mapM f with
   | none => simp [ha, hl] at h
   | some r' =>
    simp [ha, hl] at h
    subst h
    cases i with
    | zero => simp at hb; subst hb; exact ⟨a, rfl, ha⟩
    | succ i => simpa using mapM_get hl (by simpa using hb)
theorem TOk.field {fs : List (Nat × TypeId × Nat)} (h : TOk P t ti) (hk : ti.k = .st fs) {f o sz : Nat} {ft : TypeId} (hf : fs[f]? = some (o, ft, sz)) :
  ∃ (fields : Array Field) (fd : Field) (i : TypeInfo), P.underlying t = some (.struct fields) ∧ fields[f]? = some fd ∧ fd.offset = o ∧ fd.type = ft ∧ P.info? ft = some i ∧ i.size = sz := by
 obtain ⟨fields, h1, h2⟩ := h.struct hk
 obtain ⟨fd, h3, h4⟩ := mapM_get h2 hf
 obtain ⟨i, h5, h6⟩ := Option.map_eq_some_iff.1 h4
 simp only [Prod.mk.injEq] at h6
 obtain ⟨rfl, rfl, rfl⟩ := h6
 exact ⟨fields, fd, i, h1, by simpa using h3, rfl, rfl, h5, rfl⟩
theorem TOk.notIface (h : TOk P t ti) (hk : ti.k ≠ .ifc) : ∃ d, P.underlying t = some d ∧ ∀ m, d ≠ .interface m := by
 obtain ⟨d, hd, he⟩ := h.desc
 refine ⟨d, hd, fun m e => hk ?_⟩
 subst e
 simp [tkOf] at he
 exact he.1.symm
theorem TOk.row (h : TOk P t ti) (ha : ti.agg = true) : ∃ d, P.underlying t = some d ∧ d.isRow = true := by
 obtain ⟨d, hd, he⟩ := h.desc
 rw [ha] at he
 cases d <;> simp [tkOf] at he <;> exact ⟨_, hd, rfl⟩
theorem TOk.flat (h : TOk P t ti) (ha : ti.agg = false) : ∃ d, P.underlying t = some d ∧ d.isRow = false := by
 obtain ⟨d, hd, he⟩ := h.desc
 rw [ha] at he
 cases d <;> simp [tkOf] at he <;> exact ⟨_, hd, rfl⟩
end

def getX : Fr → Nat → (SV → Prop) → Prop
 | [], _, _ => False
 | (j, v) :: r, i, K => match Nat.beq j i with
  | true => K v
  | false => getX r i K
theorem getX_ok {F : Fr} {i : Nat} {K : SV → Prop} (h : getX F i K) : ∃ sv, (i, sv) ∈ F ∧ K sv := by
 induction F with
 | nil => exact h.elim
 | cons x r ih =>
  obtain ⟨j, v⟩ := x
  unfold getX at h
  split at h
  ·rename_i hj
   have : j = i := Nat.eq_of_beq_eq_true hj
   subst this
   exact ⟨v, List.mem_cons_self, h⟩
  ·obtain ⟨sv, h1, h2⟩ := ih h
   exact ⟨sv, List.mem_cons_of_mem _ h1, h2⟩
def valsX : List Value → (List SC → Prop) → Prop
 | [], K => K []
 | v :: r, K => valsX r fun l => K (.val v :: l)
theorem valsX_ok {l : List Value} {K : List SC → Prop} (h : valsX l K) : ∃ cs, K cs ∧ ∀ ρ, All2 (SC.Is ρ) cs l := by
 induction l generalizing K with
 | nil => exact ⟨[], h, fun _ => .nil⟩
 | cons v r ih =>
  obtain ⟨cs, h1, h2⟩ := ih h
  exact ⟨_, h1, fun ρ => .cons rfl (h2 ρ)⟩
def constX (v : Value) (K : SV → Prop) : Prop :=
 match v with
 | .agg cs => valsX cs.toList fun l => K (.si (.ag l))
 | v => K (.si (.ce (.val v)))
theorem constX_ok {v : Value} {K : SV → Prop} (h : constX v K) : ∃ sv, K sv ∧ ∀ ρ, sv.Is ρ v := by
 unfold constX at h
 split at h
 ·rename_i cs
  obtain ⟨l, h1, h2⟩ := valsX_ok h
  exact ⟨_, h1, fun ρ => ⟨cs.toList, by simp, h2 ρ⟩⟩
 ·exact ⟨_, h, fun _ => rfl⟩
def evX (x : Operand) (F : Fr) (K : SV → Prop) : Prop :=
 match x with
 | .tmp t => getX F t K
 | .const v => constX v K
 | .global g => K (.si (.ce (.val (.pointer (some ⟨g, 0, none⟩)))))
 | .func f => K (.si (.ce (.fn (.func f) 0 [])))
theorem evX_ok {x : Operand} {F : Fr} {K : SV → Prop} (h : evX x F K) : ∃ sv, K sv ∧ ∀ ρ (a : Act), FOk ρ F a.tmps → sv.Is ρ (a.eval x) := by
 cases x with
 | tmp t =>
  obtain ⟨sv, h1, h2⟩ := getX_ok h
  refine ⟨sv, h2, fun ρ a hf => ?_⟩
  obtain ⟨v, h3, h4⟩ := hf t sv h1
  simp only [Act.eval, Array.getD_eq_getD_getElem?, h3, Option.getD_some]
  exact h4
 | const v =>
  obtain ⟨sv, h1, h2⟩ := constX_ok h
  exact ⟨sv, h1, fun ρ _ _ => h2 ρ⟩
 | global g => exact ⟨_, h, fun _ _ _ => rfl⟩
 | func f => exact ⟨_, h, fun _ _ _ => ⟨[], rfl, .nil⟩⟩
def getG : List SB → Nat → (SB → Prop) → Prop
 | [], _, _ => False
 | s :: _, 0, K => K s
 | _ :: r, k + 1, K => getG r k K
theorem getG_ok {G : List SB} {k : Nat} {K : SB → Prop} (h : getG G k K) : ∃ s, G[k]? = some s ∧ K s := by
 induction G generalizing k with
 | nil => exact h.elim
 | cons s r ih =>
  cases k with
  | zero => exact ⟨s, rfl, h⟩
  | succ k => obtain ⟨s', h1, h2⟩ := ih h; exact ⟨s', by simpa using h1, h2⟩
def getC : List SC → Nat → (SC → Prop) → Prop
 | [], _, _ => False
 | s :: _, 0, K => K s
 | _ :: r, k + 1, K => getC r k K
theorem getC_ok {G : List SC} {k : Nat} {K : SC → Prop} (h : getC G k K) : ∃ s, G[k]? = some s ∧ K s := by
 induction G generalizing k with
 | nil => exact h.elim
 | cons s r ih =>
  cases k with
  | zero => exact ⟨s, rfl, h⟩
  | succ k => obtain ⟨s', h1, h2⟩ := ih h; exact ⟨s', by simpa using h1, h2⟩
def getS : List SG → Nat → (SG → Prop) → Prop
 | [], _, _ => False
 | s :: _, 0, K => K s
 | _ :: r, k + 1, K => getS r k K
theorem getS_ok {G : List SG} {k : Nat} {K : SG → Prop} (h : getS G k K) : ∃ s, G[k]? = some s ∧ K s := by
 induction G generalizing k with
 | nil => exact h.elim
 | cons s r ih =>
  cases k with
  | zero => exact ⟨s, rfl, h⟩
  | succ k => obtain ⟨s', h1, h2⟩ := ih h; exact ⟨s', by simpa using h1, h2⟩
def takeC : List SC → Nat → (List SC → Prop) → Prop
 | _, 0, K => K []
 | [], _ + 1, _ => False
 | c :: r, n + 1, K => takeC r n fun l => K (c :: l)
def dropC : List SC → Nat → (List SC → Prop) → Prop
 | l, 0, K => K l
 | [], _ + 1, _ => False
 | _ :: r, n + 1, K => dropC r n K
theorem takeC_ok {l : List SC} {n : Nat} {K : List SC → Prop} (h : takeC l n K) : n ≤ l.length ∧ K (l.take n) := by
 induction n generalizing l K with
 | zero => exact ⟨Nat.zero_le _, by simpa [takeC] using h⟩
 | succ n ih =>
  cases l with
  | nil => exact h.elim
  | cons c r => obtain ⟨h1, h2⟩ := ih h; exact ⟨by simpa using h1, by simpa using h2⟩
theorem dropC_ok {l : List SC} {n : Nat} {K : List SC → Prop} (h : dropC l n K) : n ≤ l.length ∧ K (l.drop n) := by
 induction n generalizing l K with
 | zero => exact ⟨Nat.zero_le _, by simpa [dropC] using h⟩
 | succ n ih =>
  cases l with
  | nil => exact h.elim
  | cons c r => obtain ⟨h1, h2⟩ := ih h; exact ⟨by simpa using h1, by simpa using h2⟩

def cellX (sv : SV) (K : SC → Prop) : Prop :=
 match sv with
 | .si (.ce c) => K c
 | _ => False
def aggX (sv : SV) (K : List SC → Prop) : Prop :=
 match sv with
 | .si (.ag l) => K l
 | _ => False
def tupX (sv : SV) (K : List SG → Prop) : Prop :=
 match sv with
 | .tu l => K l
 | _ => False
def plainX (sv : SV) (K : Value → Prop) : Prop :=
 match sv with
 | .si (.ce (.val v)) => K v
 | _ => False
def intX (sv : SV) (K : IntKind → Int → Prop) : Prop :=
 match sv with
 | .si (.ce (.val (.int k n))) => K k n
 | _ => False
def boolX (sv : SV) (K : Bool → Prop) : Prop :=
 match sv with
 | .si (.ce (.val (.bool t))) => K t
 | _ => False
def strX (sv : SV) (K : ByteArray → Prop) : Prop :=
 match sv with
 | .si (.ce (.val (.string s))) => K s
 | _ => False
def sliceX (sv : SV) (G : List SB) (K : Option Addr → Nat → Nat → Prop) : Prop :=
 match sv with
 | .si (.ce (.val (.slice A n c))) => K A n c
 | .si (.ce (.self k)) => getG G k fun s => match s with
  | .frz (.slice A n c) => K A n c
  | _ => False
 | _ => False
section
variable {sv : SV}
theorem cellX_ok {K : SC → Prop} (h : cellX sv K) : ∃ c, sv = .si (.ce c) ∧ K c := by unfold cellX at h; split at h <;> first | exact ⟨_, rfl, h⟩ | exact h.elim
theorem aggX_ok {K : List SC → Prop} (h : aggX sv K) : ∃ c, sv = .si (.ag c) ∧ K c := by unfold aggX at h; split at h <;> first | exact ⟨_, rfl, h⟩ | exact h.elim
theorem tupX_ok {K : List SG → Prop} (h : tupX sv K) : ∃ c, sv = .tu c ∧ K c := by unfold tupX at h; split at h <;> first | exact ⟨_, rfl, h⟩ | exact h.elim
theorem plainX_ok {K : Value → Prop} (h : plainX sv K) : ∃ c, sv = .si (.ce (.val c)) ∧ K c := by unfold plainX at h; split at h <;> first | exact ⟨_, rfl, h⟩ | exact h.elim
theorem intX_ok {K : IntKind → Int → Prop} (h : intX sv K) : ∃ k n, sv = .si (.ce (.val (.int k n))) ∧ K k n := by unfold intX at h; split at h <;> first | exact ⟨_, _, rfl, h⟩ | exact h.elim
theorem boolX_ok {K : Bool → Prop} (h : boolX sv K) : ∃ t, sv = .si (.ce (.val (.bool t))) ∧ K t := by unfold boolX at h; split at h <;> first | exact ⟨_, rfl, h⟩ | exact h.elim
theorem strX_ok {K : ByteArray → Prop} (h : strX sv K) : ∃ s, sv = .si (.ce (.val (.string s))) ∧ K s := by unfold strX at h; split at h <;> first | exact ⟨_, rfl, h⟩ | exact h.elim
end

structure Sw (ρ : List Value) (H : Hp) (G : List SB) (w : World) : Prop where
 hin : H.In w
 len : ρ.length = G.length
 ok : ∀ (k : Nat) (s : SB) (r : Value), G[k]? = some s → ρ[k]? = some r → s.Ok ρ w r
theorem St.sw {w0 : World} {M : Nat → Prop} {H0 : Hp} {ρ : List Value} {H : Hp} {G : List SB} {w : World} (h : St w0 M H0 ρ H G w) : Sw ρ H G w := ⟨h.hin, h.len, h.ok⟩
theorem Sw.at {ρ : List Value} {H : Hp} {G : List SB} {w : World} (h : Sw ρ H G w) {k : Nat} {s : SB} (hk : G[k]? = some s) : ∃ r, ρ[k]? = some r ∧ s.Ok ρ w r := by
 have hlt := (List.getElem?_eq_some_iff.1 hk).1
 have : k < ρ.length := by rw [h.len]; exact hlt
 exact ⟨ρ[k], List.getElem?_eq_getElem this, h.ok k s _ hk (List.getElem?_eq_getElem this)⟩
theorem Sw.other {ρ : List Value} {H : Hp} {G : List SB} {w w' : World} (_h : Sw ρ H G w) (h' : Sw ρ H G w') {k : Nat} {s : SB} (hk : G[k]? = some s) {r : Value} (hr : ρ[k]? = some r) : s.Ok ρ w' r := h'.ok k s r hk hr

theorem sliceX_ok {sv : SV} {G : List SB} {K : Option Addr → Nat → Nat → Prop} (h : sliceX sv G K) : ∃ A n c, K A n c ∧ ∀ ρ H w v, Sw ρ H G w → sv.Is ρ v → v = .slice A n c := by
 unfold sliceX at h
 split at h
 ·exact ⟨_, _, _, h, fun _ _ _ _ _ hv => hv⟩
 ·rename_i k
  obtain ⟨s, h1, h2⟩ := getG_ok h
  split at h2
  ·rename_i A n c
   refine ⟨A, n, c, h2, fun ρ H w v hs hv => ?_⟩
   obtain ⟨r, h3, h4⟩ := hs.at h1
   have hv' : ρ[k]? = some v := hv
   rw [hv'] at h3
   injection h3 with h3
   rw [h3]; exact h4
  ·exact h2.elim
 ·exact h.elim

def RdC (H : Hp) (A : Option Addr) (off : Nat) (x : Value) : Prop := ∃ b o, A = some ⟨b, o, none⟩ ∧ H b (o + off) = some x
def RdN (H : Hp) (A : Option Addr) (off : Nat) (xs : List Value) : Prop := ∃ b o, A = some ⟨b, o, none⟩ ∧ ∀ (j : Nat) (x : Value), xs[j]? = some x → H b (o + off + j) = some x

def byteAt (s : ByteArray) (n : Int) : Int := ((s.data.toList.getD n.toNat 0).toNat : Int)
def subA (A : Option Addr) (cap l sz : Nat) : Option Addr := if cap = l then A else A.map (·.add (l * sz))

def binInt (op : BinOp) (k : IntKind) (x y : Int) (K : Value → Prop) : Prop :=
 match op with
 | .add => K (.int k (k.wrap (x + y)))
 | .sub => K (.int k (k.wrap (x - y)))
 | .mul => K (.int k (k.wrap (x * y)))
 | .quo => y ≠ 0 ∧ K (.int k (k.wrap (x.tdiv y)))
 | .rem => y ≠ 0 ∧ K (.int k (x.tmod y))
 | .and => K (.int k (k.wrap (BitVec.ofInt k.bits x &&& BitVec.ofInt k.bits y).toNat))
 | .or => K (.int k (k.wrap (BitVec.ofInt k.bits x ||| BitVec.ofInt k.bits y).toNat))
 | .xor => K (.int k (k.wrap (BitVec.ofInt k.bits x ^^^ BitVec.ofInt k.bits y).toNat))
 | .andNot => K (.int k (k.wrap (BitVec.ofInt k.bits x &&& ~~~ BitVec.ofInt k.bits y).toNat))
 | .eql => K (.bool (x == y))
 | .neq => K (.bool (x != y))
 | .lss => K (.bool (decide (x < y)))
 | .leq => K (.bool (decide (x ≤ y)))
 | .gtr => K (.bool (decide (x > y)))
 | .geq => K (.bool (decide (x ≥ y)))
 | _ => False
def eqB : List UInt8 → List UInt8 → Bool
 | [], [] => true
 | a :: r, b :: s => Nat.beq a.toNat b.toNat && eqB r s
 | _, _ => false
def strEq (x y : ByteArray) : Bool := eqB x.data.toList y.data.toList
theorem eqB_iff : ∀ {l m : List UInt8}, eqB l m = (l == m)
 | [], [] => rfl
 | [], _ :: _ => rfl
 | _ :: _, [] => rfl
 | a :: r, b :: s => by
  have ih := eqB_iff (l := r) (m := s)
  unfold eqB
  rw [ih]
  have : Nat.beq a.toNat b.toNat = (a == b) := by
   rw [Bool.eq_iff_iff, beq_iff_eq]
   constructor
   ·intro h; exact UInt8.toNat_inj.1 (Nat.eq_of_beq_eq_true h)
   ·intro h; rw [h]; exact Nat.beq_refl _
  rw [this]; rfl
theorem strEq_iff {x y : ByteArray} : strEq x y = true ↔ x = y := by
 unfold strEq
 rw [eqB_iff, beq_iff_eq]
 constructor
 ·intro h; cases x; cases y; simpa [← Array.toList_inj] using h
 ·intro h; rw [h]
theorem strEq_false {x y : ByteArray} : strEq x y = false ↔ x ≠ y := by
 rw [Ne, ← strEq_iff (x := x) (y := y)]; simp
theorem strEq_toList (x y : ByteArray) : (x.toList == y.toList) = strEq x y := by
 rw [ByteArray.toList_eq, ByteArray.toList_eq]; exact eqB_iff.symm
def lessB : List UInt8 → List UInt8 → Bool
 | _, [] => false
 | [], _ :: _ => true
 | a :: r, b :: s => Nat.blt a.toNat b.toNat || (Nat.beq a.toNat b.toNat && lessB r s)
def strLt (x y : ByteArray) : Bool := lessB x.data.toList y.data.toList
theorem lessB_iff : ∀ {l m : List UInt8}, lessB l m = Op.bytesLess l m
 | _, [] => by cases ‹List UInt8› <;> rfl
 | [], _ :: _ => rfl
 | a :: r, b :: s => by
  have ih := lessB_iff (l := r) (m := s)
  unfold lessB Op.bytesLess
  rw [ih]
  have h1 : Nat.beq a.toNat b.toNat = (a == b) := by
   rw [Bool.eq_iff_iff, beq_iff_eq]
   constructor
   ·intro h; exact UInt8.toNat_inj.1 (Nat.eq_of_beq_eq_true h)
   ·intro h; rw [h]; exact Nat.beq_refl _
  have h2 : Nat.blt a.toNat b.toNat = decide (a < b) := by
   rw [Bool.eq_iff_iff, decide_eq_true_eq, UInt8.lt_iff_toNat_lt]
   simp
  rw [h1, h2]
theorem strLt_toList (x y : ByteArray) : Op.bytesLess x.toList y.toList = strLt x y := by
 rw [ByteArray.toList_eq, ByteArray.toList_eq]; exact lessB_iff.symm
def binStr (op : BinOp) (x y : ByteArray) (K : Value → Prop) : Prop :=
 match op with
 | .add => x.size + y.size ≤ 9223372036854775807 ∧ K (.string (x ++ y))
 | .eql => K (.bool (strEq x y))
 | .neq => K (.bool (!(strEq x y)))
 | .lss => K (.bool (strLt x y))
 | .leq => K (.bool (strLt x y || strEq x y))
 | .gtr => K (.bool (!(strLt x y || strEq x y)))
 | .geq => K (.bool (!(strLt x y)))
 | _ => False
def shiftInt (op : BinOp) (k : IntKind) (x y : Int) (K : Value → Prop) : Prop :=
 match op with
 | .shl => 0 ≤ y ∧ K (.int k (k.wrap (x * 2 ^ min y.toNat k.bits)))
 | .shr => 0 ≤ y ∧ K (.int k (x.fdiv (2 ^ min y.toNat k.bits)))
 | _ => False
def nilX (op : BinOp) (isNil : Bool) (K : Value → Prop) : Prop :=
 match op with
 | .eql => K (.bool isNil)
 | .neq => K (.bool (!isNil))
 | _ => False
def isShift : BinOp → Bool
 | .shl | .shr => true
 | _ => false
def kindEq : IntKind → IntKind → Bool
 | .i8, .i8 | .i16, .i16 | .i32, .i32 | .i64, .i64 | .u8, .u8 | .u16, .u16 | .u32, .u32 | .u64, .u64 => true
 | _, _ => false
theorem kindEq_ok {a b : IntKind} (h : kindEq a b = true) : a = b := by cases a <;> cases b <;> first | rfl | cases h
def binX (op : BinOp) (a b : Value) (K : Value → Prop) : Prop :=
 match a with
 | .int k x => match b with
  | .int k' y => match isShift op with
   | true => shiftInt op k x y K
   | false => match kindEq k k' with
    | true => binInt op k x y K
    | false => False
  | _ => False
 | .string x => match b with
  | .string y => binStr op x y K
  | _ => False
 | .bool x => match b with
  | .bool y => match op with
   | .eql => K (.bool (x == y))
   | .neq => K (.bool (x != y))
   | _ => False
  | _ => False
 | _ => False

section
variable {P : Program} {w : World}
theorem binInt_ok {t : TypeId} {op : BinOp} {k : IntKind} {x y : Int} {K : Value → Prop} (hs : isShift op = false) (h : binInt op k x y K) : ∃ v, K v ∧ ∀ w, (binOp op t (.int k x) (.int k y)).run P w = .ok v w := by
 cases op <;> first
  | (cases hs; done)
  | exact h.elim
  | (obtain ⟨h1, h2⟩ := h; exact ⟨_, h2, fun w => by simp [binOp, Op.intDiv, h1]⟩)
  | (refine ⟨_, h, fun w => ?_⟩; simp only [binOp, ne_eq, not_true_eq_false, if_false]; rfl)
theorem shiftInt_ok {t : TypeId} {op : BinOp} {k k' : IntKind} {x y : Int} {K : Value → Prop} (h : shiftInt op k x y K) : ∃ v, K v ∧ ∀ w, (binOp op t (.int k x) (.int k' y)).run P w = .ok v w := by
 cases op <;> first
  | exact h.elim
  | (obtain ⟨h1, h2⟩ := h; exact ⟨_, h2, fun w => by simp [binOp, Op.shift, Int.not_lt.2 h1]⟩)
theorem binStr_ok {t : TypeId} {op : BinOp} {x y : ByteArray} {K : Value → Prop} (h : binStr op x y K) : ∃ v, K v ∧ ∀ w, (binOp op t (.string x) (.string y)).run P w = .ok v w := by
 cases op <;> first
  | exact h.elim
  | (obtain ⟨h1, h2⟩ := h; refine ⟨_, h2, fun w => ?_⟩; simp only [binOp, Op.stringOp]; rw [if_neg (by simp [IntKind.max, IntKind.signed, IntKind.bits]; omega)]; rfl)
  | (exact ⟨_, h, fun w => by simp only [binOp, Op.stringOp, strEq_toList, strLt_toList]; rfl⟩)
end
end Go.Kx
