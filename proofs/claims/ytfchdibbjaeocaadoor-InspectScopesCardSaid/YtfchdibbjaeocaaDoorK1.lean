/- A walk of one's own: symbolic states. What a function's frame and the blocks that it alone may touch hold, told in a small language; what is read for good ('Hp'); the frame law of calls. Generic in the program; no condition of its own. -/
import Derived.Test.YtfchdibbjaeocaaDoorK0
import Derived.Calls
import Derived.Below
import Derived.Laws.AppendOwn
import Derived.MapKept
namespace Go.Kx

/-! ### Lists side by side -/
inductive All2 {α β : Type} (R : α → β → Prop) : List α → List β → Prop
  | nil : All2 R [] []
  | cons {a b l m} : R a b → All2 R l m → All2 R (a :: l) (b :: m)
theorem All2.mono {α β : Type} {R S : α → β → Prop} (h : ∀ a b, R a b → S a b) {l : List α} {m : List β} (hl : All2 R l m) : All2 S l m := by
  induction hl with
  | nil => exact .nil
  | cons h1 _ ih => exact .cons (h _ _ h1) ih
theorem All2.length {α β : Type} {R : α → β → Prop} {l : List α} {m : List β} (h : All2 R l m) : l.length = m.length := by
  induction h with
  | nil => rfl
  | cons _ _ ih => simp [ih]
theorem All2.get {α β : Type} {R : α → β → Prop} {l : List α} {m : List β} (h : All2 R l m) : ∀ {i : Nat} {a : α}, l[i]? = some a → ∃ b, m[i]? = some b ∧ R a b := by
  induction h with
  | nil => intro i a h; simp at h
  | cons h1 _ ih =>
    intro i a h
    cases i with
    | zero => simp at h; subst h; exact ⟨_, rfl, h1⟩
    | succ i => exact ih (by simpa using h)
theorem All2.get' {α β : Type} {R : α → β → Prop} {l : List α} {m : List β} (h : All2 R l m) : ∀ {i : Nat} {b : β}, m[i]? = some b → ∃ a, l[i]? = some a ∧ R a b := by
  induction h with
  | nil => intro i a h; simp at h
  | cons h1 _ ih =>
    intro i a h
    cases i with
    | zero => simp at h; subst h; exact ⟨_, rfl, h1⟩
    | succ i => exact ih (by simpa using h)
theorem All2.set {α β : Type} {R : α → β → Prop} {l : List α} {m : List β} (h : All2 R l m) {a : α} {b : β} (hr : R a b) : ∀ i, All2 R (l.set i a) (m.set i b) := by
  induction h with
  | nil => intro i; exact .nil
  | cons h1 h2 ih =>
    intro i
    cases i with
    | zero => exact .cons hr h2
    | succ i => exact .cons h1 (ih i)
theorem All2.append {α β : Type} {R : α → β → Prop} {l l' : List α} {m m' : List β} (h : All2 R l m) (h' : All2 R l' m') : All2 R (l ++ l') (m ++ m') := by
  induction h with
  | nil => exact h'
  | cons h1 _ ih => exact .cons h1 ih
theorem All2.drop {α β : Type} {R : α → β → Prop} {l : List α} {m : List β} (h : All2 R l m) : ∀ i, All2 R (l.drop i) (m.drop i) := by
  induction h with
  | nil => intro i; simp; exact .nil
  | cons h1 h2 ih =>
    intro i
    cases i with
    | zero => exact .cons h1 h2
    | succ i => exact ih i
theorem All2.take {α β : Type} {R : α → β → Prop} {l : List α} {m : List β} (h : All2 R l m) : ∀ i, All2 R (l.take i) (m.take i) := by
  induction h with
  | nil => intro i; simp; exact .nil
  | cons h1 h2 ih =>
    intro i
    cases i with
    | zero => exact .nil
    | succ i => exact .cons h1 (ih i)
theorem All2.map_left {α β γ : Type} {R : α → β → Prop} {f : γ → α} {l : List γ} {m : List β} (h : All2 (fun c b => R (f c) b) l m) : All2 R (l.map f) m := by
  induction h with
  | nil => exact .nil
  | cons h1 _ ih => exact .cons h1 ih
theorem All2.of_map_left {α β γ : Type} {R : α → β → Prop} {f : γ → α} {l : List γ} {m : List β} (h : All2 R (l.map f) m) : All2 (fun c b => R (f c) b) l m := by
  induction l generalizing m with
  | nil => cases h; exact .nil
  | cons a l ih => cases h with | cons h1 h2 => exact .cons h1 (ih h2)

/-! ### What is read for good -/
/-- Cells that nobody turns any more. -/
abbrev Hp := Nat → Nat → Option Value
def Hp.Le (H H' : Hp) : Prop := ∀ b o v, H b o = some v → H' b o = some v
def Hp.In (H : Hp) (w : World) : Prop := ∀ b o v, H b o = some v → w.cell? ⟨b, o, none⟩ = some v
def Hp.Out (H : Hp) (g : Nat) : Prop := ∀ o, H g o = none
theorem Hp.Le.refl (H : Hp) : H.Le H := fun _ _ _ h => h
theorem Hp.Le.trans {H H' H'' : Hp} (h : H.Le H') (h' : H'.Le H'') : H.Le H'' := fun _ _ _ e => h' _ _ _ (h _ _ _ e)

/-! ### Symbolic values -/
/-- A cell: a value; a pointer into block k of one's own; what stands for block k itself (a row's slice, a map); a function with such pointers; a pointer into what is read for good; whatever. -/
inductive SC
  | val (x : Value)
  | ptr (k off : Nat)
  | self (k : Nat)
  | fn (f : Fn) (n : Nat) (caps : List (Nat × Nat))
  | pp (A : Option Addr) (off : Nat)
  | any
inductive SG
  | ce (x : SC)
  | ag (xs : List SC)
inductive SV
  | si (x : SG)
  | tu (xs : List SG)

def ptrAt (r : Value) (off : Nat) : Option Value :=
  match r with
  | .pointer (some a) => some (.pointer (some ⟨a.block, off, none⟩))
  | .slice (some a) _ _ => some (.pointer (some ⟨a.block, a.off + off, none⟩))
  | _ => none
def addrAt (A : Option Addr) (off : Nat) : Value := .pointer (A.map fun a => ⟨a.block, a.off + off, none⟩)
def SC.Is (ρ : List Value) : SC → Value → Prop
  | .val x, y => y = x
  | .ptr k off, y => ∃ r, ρ[k]? = some r ∧ ptrAt r off = some y
  | .self k, y => ρ[k]? = some y
  | .fn f n caps, y => ∃ ys : List Value, y = .func f (ys.take n).toArray (ys.drop n).toArray ∧ All2 (fun (p : Nat × Nat) z => ∃ r, ρ[p.1]? = some r ∧ ptrAt r p.2 = some z) caps ys
  | .pp A off, y => y = addrAt A off
  | .any, _ => True
def SG.Is (ρ : List Value) : SG → Value → Prop
  | .ce x, y => x.Is ρ y
  | .ag xs, y => ∃ ys : List Value, y = .agg ys.toArray ∧ All2 (SC.Is ρ) xs ys
def SV.Is (ρ : List Value) : SV → Value → Prop
  | .si x, y => x.Is ρ y
  | .tu xs, y => ∃ ys : List Value, y = .tuple ys.toArray ∧ All2 (SG.Is ρ) xs ys

/-- ρ' goes on from ρ. -/
def Pre (ρ ρ' : List Value) : Prop := ∀ (k : Nat) (r : Value), ρ[k]? = some r → ρ'[k]? = some r
theorem Pre.refl (ρ : List Value) : Pre ρ ρ := fun _ _ h => h
theorem Pre.trans {a b c : List Value} (h : Pre a b) (h' : Pre b c) : Pre a c := fun _ _ e => h' _ _ (h _ _ e)
theorem Pre.append (ρ l : List Value) : Pre ρ (ρ ++ l) := fun k r h => by
  rw [List.getElem?_append_left (List.getElem?_eq_some_iff.1 h).1]; exact h
theorem SC.Is.mono {ρ ρ' : List Value} (h : Pre ρ ρ') {c : SC} {y : Value} (hc : c.Is ρ y) : c.Is ρ' y := by
  cases c with
  | val x => exact hc
  | ptr k off => obtain ⟨r, h1, h2⟩ := hc; exact ⟨r, h _ _ h1, h2⟩
  | self k => exact h _ _ hc
  | fn f n caps => obtain ⟨ys, h1, h2⟩ := hc; exact ⟨ys, h1, h2.mono fun a b ⟨r, hr, hp⟩ => ⟨r, h _ _ hr, hp⟩⟩
  | pp A off => exact hc
  | any => trivial
theorem SG.Is.mono {ρ ρ' : List Value} (h : Pre ρ ρ') {c : SG} {y : Value} (hc : c.Is ρ y) : c.Is ρ' y := by
  cases c with
  | ce x => exact SC.Is.mono h hc
  | ag xs => obtain ⟨ys, h1, h2⟩ := hc; exact ⟨ys, h1, h2.mono fun _ _ => SC.Is.mono h⟩
theorem SV.Is.mono {ρ ρ' : List Value} (h : Pre ρ ρ') {c : SV} {y : Value} (hc : c.Is ρ y) : c.Is ρ' y := by
  cases c with
  | si x => exact SG.Is.mono h hc
  | tu xs => obtain ⟨ys, h1, h2⟩ := hc; exact ⟨ys, h1, h2.mono fun _ _ => SG.Is.mono h⟩

/-! ### Blocks of one's own -/
/-- A row of n elements (each of sz cells): nil, or a slice into a block that nobody else has, from some cell on. -/
def OwnRow (w : World) (e sz : Nat) (r : Value) (n : Nat) (xs : List Value) : Prop :=
  xs.length = n * sz ∧ ((r = .slice none 0 0 ∧ n = 0) ∨ ∃ g o cap cur, r = .slice (some ⟨g, o, none⟩) n cap ∧ w.heap[g]? = some (.cells cur e (0, 0)) ∧ n ≤ cap ∧ cap ≤ maxLen ∧ o + cap * sz ≤ cur.size ∧ (cur.toList.drop o).take (n * sz) = xs)
theorem OwnRow.nil (w : World) (e sz : Nat) : OwnRow w e sz (.slice none 0 0) 0 [] := ⟨by simp, .inl ⟨rfl, rfl⟩⟩
theorem OwnRow.of {w : World} {base e sz n : Nat} {r : Value} {xs : List Value} (h : w.ownsRow base e sz r n xs) : OwnRow w e sz r n xs := by
  refine ⟨h.1, ?_⟩
  rcases h.2 with h | ⟨g, cap, cur, h1, _, h2, h3, h4, h5, h6⟩
  · exact .inl h
  · exact .inr ⟨g, 0, cap, cur, h1, h2, h3, h4, by omega, by simpa using h6⟩
/-- A map of n entries, that has f's elements at f's keys. -/
structure MapIs (d : TypeDesc) (n : Nat) (f : Value → Option Value) (es : Array MapEntry) (clock : Nat) : Prop where
  stamped : MapKept.Stamped es clock
  keys : ∀ x ∈ es.toList, MapKept.IsKey d x.key
  size : es.size = n
  is : ∀ k v, f k = some v ↔ ∃ x ∈ es.toList, x.key = k ∧ x.val = v
/-- A box of cells; cells told as one list; cells of which the first are told; a growing row of n elements (each 'sz' cells); a map; a value that is known (what a row was, once it is read for good); nothing. -/
inductive SB
  | box (t : TypeId) (cs : List SC)
  | arr (t : TypeId) (xs : List Value)
  | pre (t : TypeId) (xs : List Value)
  | row (e : TypeId) (sz n : Nat) (xs : List Value)
  | map (d : TypeDesc) (n : Nat) (f : Value → Option Value)
  | frz (x : Value)
  | dead

def SB.Ok (ρ : List Value) (w : World) (r : Value) : SB → Prop
  | .box t cs => ∃ g ys, r = .pointer (some ⟨g, 0, none⟩) ∧ w.heap[g]? = some (.cells (List.toArray ys) t (0, 0)) ∧ All2 (SC.Is ρ) cs ys
  | .arr t xs => ∃ g, r = .pointer (some ⟨g, 0, none⟩) ∧ w.heap[g]? = some (.cells (List.toArray xs) t (0, 0))
  | .pre t xs => ∃ g cur, r = .pointer (some ⟨g, 0, none⟩) ∧ w.heap[g]? = some (.cells cur t (0, 0)) ∧ cur.toList.take xs.length = xs
  | .row e sz n xs => OwnRow w e sz r n xs
  | .map d n f => ∃ g es clock, r = .map (some g) ∧ w.heap[g]? = some (.map es clock) ∧ MapIs d n f es clock
  | .frz x => r = x
  | .dead => True
/-- Which block it is. -/
def SB.blk (r : Value) : SB → Option Nat
  | .box .. | .arr .. | .pre .. => match r with
    | .pointer (some a) => some a.block
    | _ => none
  | .row .. => r.ownBlock
  | .map .. => match r with
    | .map (some g) => some g
    | _ => none
  | .frz _ | .dead => none
theorem SB.Ok.mono {ρ ρ' : List Value} (h : Pre ρ ρ') {w : World} {r : Value} {s : SB} (hs : s.Ok ρ w r) : s.Ok ρ' w r := by
  cases s with
  | box t cs => obtain ⟨g, ys, h1, h2, h3⟩ := hs; exact ⟨g, ys, h1, h2, h3.mono fun _ _ => SC.Is.mono h⟩
  | _ => exact hs
/-- It stays so where its block stays. -/
theorem SB.Ok.move {ρ : List Value} {w w' : World} {r : Value} {s : SB} (hs : s.Ok ρ w r) (h : ∀ g, s.blk r = some g → w'.heap[g]? = w.heap[g]?) : s.Ok ρ w' r := by
  cases s with
  | box t cs => obtain ⟨g, ys, rfl, h2, h3⟩ := hs; exact ⟨g, ys, rfl, (h g rfl).trans h2, h3⟩
  | arr t xs => obtain ⟨g, rfl, h2⟩ := hs; exact ⟨g, rfl, (h g rfl).trans h2⟩
  | pre t xs => obtain ⟨g, cur, rfl, h2, h3⟩ := hs; exact ⟨g, cur, rfl, (h g rfl).trans h2, h3⟩
  | row e sz n xs =>
    refine ⟨hs.1, ?_⟩
    rcases hs.2 with h2 | ⟨g, o, cap, cur, rfl, hh, rest⟩
    · exact .inl h2
    · exact .inr ⟨g, o, cap, cur, rfl, (h g rfl).trans hh, rest⟩
  | map d n f => obtain ⟨g, es, clock, rfl, h2, h3⟩ := hs; exact ⟨g, es, clock, rfl, (h g rfl).trans h2, h3⟩
  | frz x => exact hs
  | dead => trivial
theorem SB.Ok.lt {ρ : List Value} {w : World} {r : Value} {s : SB} (hs : s.Ok ρ w r) {g : Nat} (hg : s.blk r = some g) : g < w.heap.size := by
  cases s with
  | box t cs => obtain ⟨g', ys, rfl, h2, h3⟩ := hs; simp [SB.blk] at hg; subst hg; exact (Array.getElem?_eq_some_iff.1 h2).1
  | arr t xs => obtain ⟨g', rfl, h2⟩ := hs; simp [SB.blk] at hg; subst hg; exact (Array.getElem?_eq_some_iff.1 h2).1
  | pre t xs => obtain ⟨g', cur, rfl, h2, h3⟩ := hs; simp [SB.blk] at hg; subst hg; exact (Array.getElem?_eq_some_iff.1 h2).1
  | row e sz n xs =>
    rcases hs.2 with ⟨rfl, _⟩ | ⟨g', o, cap, cur, rfl, hh, _⟩
    · simp [SB.blk, Value.ownBlock] at hg
    · simp [SB.blk, Value.ownBlock] at hg; subst hg; exact (Array.getElem?_eq_some_iff.1 hh).1
  | map d n f => obtain ⟨g', es, clock, rfl, h2, h3⟩ := hs; simp [SB.blk] at hg; subst hg; exact (Array.getElem?_eq_some_iff.1 h2).1
  | frz x => simp [SB.blk] at hg
  | dead => simp [SB.blk] at hg

/-! ### States -/
def blkAt (ρ : List Value) (G : List SB) (k : Nat) : Option Nat :=
  match G[k]?, ρ[k]? with
  | some s, some r => s.blk r
  | _, _ => none

/-- World w is what has become of w0: of what was there only blocks of M have turned; H is read for good; the blocks of G are one's own. -/
structure St (w0 : World) (M : Nat → Prop) (H0 : Hp) (ρ : List Value) (H : Hp) (G : List SB) (w : World) : Prop where
  os : w.os = w0.os
  tape : w.tape = w0.tape
  output : w.output = w0.output
  size : w0.heap.size ≤ w.heap.size
  old : ∀ b, b < w0.heap.size → ¬ M b → w.heap[b]? = w0.heap[b]?
  hle : H0.Le H
  hin : H.In w
  hnew : ∀ b o v, H b o = some v → H0 b o = some v ∨ w0.heap.size ≤ b ∨ M b
  len : ρ.length = G.length
  ok : ∀ (k : Nat) (s : SB) (r : Value), G[k]? = some s → ρ[k]? = some r → s.Ok ρ w r
  own : ∀ k g, blkAt ρ G k = some g → (w0.heap.size ≤ g ∨ M g) ∧ H.Out g
  inj : ∀ i j g, blkAt ρ G i = some g → blkAt ρ G j = some g → i = j

theorem blkAt_some {ρ : List Value} {G : List SB} {k g : Nat} (h : blkAt ρ G k = some g) : ∃ s r, G[k]? = some s ∧ ρ[k]? = some r ∧ s.blk r = some g := by
  unfold blkAt at h
  split at h
  · rename_i s r h1 h2; exact ⟨s, r, h1, h2, h⟩
  · cases h
theorem blkAt_eq {ρ : List Value} {G : List SB} {k : Nat} {s : SB} {r : Value} (h1 : G[k]? = some s) (h2 : ρ[k]? = some r) : blkAt ρ G k = s.blk r := by
  unfold blkAt; rw [h1, h2]
theorem St.at {w0 : World} {M : Nat → Prop} {H0 : Hp} {ρ : List Value} {H : Hp} {G : List SB} {w : World} (h : St w0 M H0 ρ H G w) {k : Nat} {s : SB} (hk : G[k]? = some s) : ∃ r, ρ[k]? = some r ∧ s.Ok ρ w r := by
  have hlt := (List.getElem?_eq_some_iff.1 hk).1
  have : k < ρ.length := by rw [h.len]; exact hlt
  exact ⟨ρ[k], List.getElem?_eq_getElem this, h.ok k s _ hk (List.getElem?_eq_getElem this)⟩
theorem St.lt {w0 : World} {M : Nat → Prop} {H0 : Hp} {ρ : List Value} {H : Hp} {G : List SB} {w : World} (h : St w0 M H0 ρ H G w) {k g : Nat} (hk : blkAt ρ G k = some g) : g < w.heap.size := by
  obtain ⟨s, r, h1, h2, h3⟩ := blkAt_some hk
  exact (h.ok k s r h1 h2).lt h3

/-- A draw turns nothing. -/
theorem St.drew {w0 : World} {M : Nat → Prop} {H0 : Hp} {ρ : List Value} {H : Hp} {G : List SB} {w : World} (h : St w0 M H0 ρ H G w) (n : Nat) : St w0 M H0 ρ H G { w with drawn := n } where
  os := h.os
  tape := h.tape
  output := h.output
  size := h.size
  old := h.old
  hle := h.hle
  hin := fun b o v e => h.hin b o v e
  hnew := h.hnew
  len := h.len
  ok := fun k s r h1 h2 => (h.ok k s r h1 h2).move fun _ _ => rfl
  own := h.own
  inj := h.inj
/-- More is read for good: cells of new blocks. -/
theorem cell_of_block {w w' : World} {b o : Nat} (h : w'.heap[b]? = w.heap[b]?) : w'.cell? ⟨b, o, none⟩ = w.cell? ⟨b, o, none⟩ := by simp [World.cell?, h]
theorem block_of_cell {w : World} {b o : Nat} {v : Value} (h : w.cell? ⟨b, o, none⟩ = some v) : b < w.heap.size := by
  unfold World.cell? at h
  rcases Nat.lt_or_ge b w.heap.size with h' | h'
  · exact h'
  · rw [Array.getElem?_eq_none h'] at h; cases h

/-! ### Frames -/
abbrev Fr := List (Nat × SV)
def FOk (ρ : List Value) (F : Fr) (tmps : Array Value) : Prop := ∀ i sv, (i, sv) ∈ F → ∃ v, tmps[i]? = some v ∧ sv.Is ρ v
theorem FOk.mono {ρ ρ' : List Value} (h : Pre ρ ρ') {F : Fr} {tmps : Array Value} (hf : FOk ρ F tmps) : FOk ρ' F tmps := fun i sv hi =>
  let ⟨v, h1, h2⟩ := hf i sv hi; ⟨v, h1, h2.mono h⟩
def eraseF : Fr → Nat → Fr
  | [], _ => []
  | (j, v) :: r, i => if j = i then eraseF r i else (j, v) :: eraseF r i
theorem mem_eraseF {F : Fr} {i : Nat} {x : Nat × SV} (h : x ∈ eraseF F i) : x ∈ F ∧ x.1 ≠ i := by
  induction F with
  | nil => simp [eraseF] at h
  | cons y F ih =>
    obtain ⟨j, v⟩ := y
    unfold eraseF at h
    split at h
    · have := ih h; exact ⟨List.mem_cons_of_mem _ this.1, this.2⟩
    · rename_i hj
      rcases List.mem_cons.1 h with rfl | h
      · exact ⟨List.mem_cons_self, hj⟩
      · have := ih h; exact ⟨List.mem_cons_of_mem _ this.1, this.2⟩
theorem FOk.put {ρ : List Value} {F : Fr} {tmps : Array Value} (h : FOk ρ F tmps) {i : Nat} (hi : i < tmps.size) {sv : SV} {v : Value} (hs : sv.Is ρ v) : FOk ρ ((i, sv) :: eraseF F i) (tmps.setIfInBounds i v) := by
  intro j s hj
  rcases List.mem_cons.1 hj with hj | hj
  · injection hj with h1 h2
    subst h1 h2
    exact ⟨v, by simp [hi], hs⟩
  · obtain ⟨hm, hne⟩ := mem_eraseF hj
    obtain ⟨u, h1, h2⟩ := h j s hm
    exact ⟨u, by rw [Array.getElem?_setIfInBounds_ne (fun e => hne e.symm)]; exact h1, h2⟩

/-- The blocks that are laid for good are as laid, and not among those that may turn. -/
def Gd (w0 : World) (M : Nat → Prop) : Prop := ∀ g cs, Gl g = some cs → (∃ t z, w0.heap[g]? = some (.cells cs t z)) ∧ ¬ M g
theorem St.gl {w0 : World} {M : Nat → Prop} {H0 : Hp} {ρ : List Value} {H : Hp} {G : List SB} {w : World} (h : St w0 M H0 ρ H G w) (hg : Gd w0 M) {g : Nat} {cs : Array Value} (hc : Gl g = some cs) : ∃ t z, w.heap[g]? = some (.cells cs t z) := by
  obtain ⟨⟨t, z, h1⟩, h2⟩ := hg g cs hc
  exact ⟨t, z, (h.old g (Array.getElem?_eq_some_iff.1 h1).1 h2).trans h1⟩
theorem St.gd {w0 : World} {M : Nat → Prop} {H0 : Hp} {ρ : List Value} {H : Hp} {G : List SB} {w : World} (h : St w0 M H0 ρ H G w) (hg : Gd w0 M) {M' : Nat → Prop} (hM : ∀ b, M' b → ∃ k, blkAt ρ G k = some b) : Gd w M' := by
  intro g cs hc
  refine ⟨h.gl hg hc, fun hm => ?_⟩
  obtain ⟨k, hk⟩ := hM g hm
  obtain ⟨⟨t, z, h1⟩, h2⟩ := hg g cs hc
  rcases (h.own k g hk).1 with h3 | h3
  · have := (Array.getElem?_eq_some_iff.1 h1).1; omega
  · exact h2 h3

/-! ### Calls -/
/-- How a call ends. -/
inductive SE
  | ret (v : SV)
  | pan (ch : List PanicEntry)

/-- What a call of function f comes to, in whatever world its state is. -/
def CallO (P : Program) (f : FuncId) (svs : List SV) (H : Hp) (G : List SB) (K : SE → Hp → List SB → Prop) : Prop :=
  ∀ (w0 : World) (M : Nat → Prop) (_ : Gd w0 M) (H0 : Hp) (ρ : List Value) (w : World) (vs : List Value), St w0 M H0 ρ H G w → All2 (SV.Is ρ) svs vs →
    Calls P f vs.toArray w fun e w' => match e with
      | .returned v => ∃ sv ρ' H' G', St w0 M H0 ρ' H' G' w' ∧ Pre ρ ρ' ∧ sv.Is ρ' v ∧ H.Le H' ∧ K (.ret sv) H' G'
      | .panicked ch => ∃ ρ' H' G', St w0 M H0 ρ' H' G' w' ∧ Pre ρ ρ' ∧ H.Le H' ∧ K (.pan ch) H' G'
      | .outgrown => False

/-- The same, as one word (that isn't laid open by reduction). -/
structure CallS (P : Program) (f : FuncId) (svs : List SV) (H : Hp) (G : List SB) (K : SE → Hp → List SB → Prop) : Prop where of ::
  to : CallO P f svs H G K
theorem CallO.mono {P : Program} {f : FuncId} {svs : List SV} {H : Hp} {G : List SB} {K K' : SE → Hp → List SB → Prop} (h : CallO P f svs H G K) (hk : ∀ e H' G', H.Le H' → K e H' G' → K' e H' G') : CallO P f svs H G K' := by
  intro w0 M hgd H0 ρ w vs hs hv
  refine (h w0 M hgd H0 ρ w vs hs hv).mono fun e w' he => ?_
  cases e with
  | returned v => obtain ⟨sv, ρ', H', G', h1, h2, h3, h4, h5⟩ := he; exact ⟨sv, ρ', H', G', h1, h2, h3, h4, hk _ _ _ h4 h5⟩
  | panicked ch => obtain ⟨ρ', H', G', h1, h2, h4, h5⟩ := he; exact ⟨ρ', H', G', h1, h2, h4, hk _ _ _ h4 h5⟩
  | outgrown => exact he

end Go.Kx
