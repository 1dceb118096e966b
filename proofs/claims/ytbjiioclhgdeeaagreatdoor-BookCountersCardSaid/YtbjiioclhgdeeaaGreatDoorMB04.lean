/- 'append' in a symbolic walk: onto a row of one's own, onto nil, onto a literal. Generic in the program; no condition of its own. -/
import Derived.Test.YtbjiioclhgdeeaaGreatDoorMB03
import Derived.OwnWalk
import Derived.Lib.AppendZeros
import Derived.Lib.ConvBytes
import Derived.Laws.BytesString
import Derived.Laws.MakeOwn
import Derived.Lib.UnsafeStr
namespace Go.Kx
open Go.RowKit

section
variable {P : Program}

structure Apped (w w' : World) (e size : Nat) (n : Nat) (xs : List Value) (v' : Value) (ob : Option Nat) : Prop where
 row : OwnRow w' e size v' n xs
 grown : w.grownBy w' ob
 blk : (v'.ownBlock = none) ∨ v'.ownBlock = ob ∨ v'.ownBlock = some w.heap.size
theorem app_grown {w : World} {e : TypeId} {i : TypeInfo} {z : Value} (hzs : z.cells.size = i.size) {n m old : Nat} {xs news : List Value} (hlen : xs.length = n * i.size) (hl : news.length = m * i.size) (_ho : old < n + m) (h63 : n + m ≤ maxLen) (ob : Option Nat) :
  Apped w (w.drew.alloc (.cells ((xs ++ news).toArray ++ Builtin.zeroCells z.cells (grownCap w (n + m) old e - (n + m))) e)) e i.size (n + m) (xs ++ news) (.slice (some ⟨w.heap.size, 0, none⟩) (n + m) (grownCap w (n + m) old e)) ob := by
 have hge := grownCap_ge w (n + m) old e
 have hcm : grownCap w (n + m) old e ≤ maxLen := grownCap_le_maxLen w (n + m) old e h63
 have hlen' : (xs ++ news).length = (n + m) * i.size := by rw [List.length_append, hlen, hl, Nat.add_mul]
 refine ⟨⟨hlen', .inr ⟨w.heap.size, 0, _, _, rfl, heap_alloc_new w.drew _, hge, hcm, ?_, ?_⟩⟩, ⟨rfl, rfl, rfl, by simp, fun k hk _ => heap_alloc_old w.drew _ k hk⟩, .inr (.inr rfl)⟩
 ·simp only [Array.size_append, List.size_toArray, size_zeroCells, hzs, hlen', ← Nat.add_mul, Nat.zero_add]
  exact Nat.le_of_eq (by congr 1; omega)
 ·simp only [Array.toList_append, List.drop_zero]
  rw [← hlen']
  exact List.take_left
theorem app_own {w : World} (t tx ty e : TypeId) (i : TypeInfo) (z : Value) (ht : P.underlying t = some (.slice e)) (hi : P.info? e = some i) (hz : i.zero = some z) (hzs : z.cells.size = i.size)
  (v : Value) (n : Nat) (xs : List Value) (hown : OwnRow w e i.size v n xs) (x : Value) (m : Nat) (news : List Value) (hs : Src P i.size tx x m news w)
  (h63 : n + m ≤ maxLen) (hbytes : (n + m) * i.bytes ≤ 140737488355328) :
  ∃ v' w', (Builtin.append_ #[t, tx] ty #[v, x]).run P w = .ok v' w' ∧ Apped w w' e i.size (n + m) (xs ++ news) v' v.ownBlock := by
 have hsmall : ((n + m : Nat) : Int) ≤ 9223372036854775807 := by simp only [maxLen] at h63; omega
 have hlen : (xs ++ news).length = (n + m) * i.size := by rw [List.length_append, hown.1, hs.newsLen, Nat.add_mul]
 rcases hown.2 with ⟨rfl, rfl⟩ | ⟨g, o, cap, cur, rfl, hg, hnc, hcm, hcs, htake⟩
 ·have hx : xs = [] := List.eq_nil_of_length_eq_zero (by simpa using hown.1)
  subst hx
  by_cases hm : m = 0
  ·subst hm
   have hn : news = [] := List.eq_nil_of_length_eq_zero (by simpa using hs.newsLen)
   subst hn
   refine ⟨.slice none 0 0, w, ?_, OwnRow.nil w e i.size, ⟨rfl, rfl, rfl, Nat.le_refl _, fun _ _ _ => rfl⟩, .inl rfl⟩
   have hlen0 := hs.len w
   have hcells := hs.cells
   rcases hs.kind with ⟨e', hk⟩ | hk <;> simp [Builtin.append_, run_underlying ht, run_underlying hk, sizeOf, typeInfo, hi, hlen0, hcells]
  ·have hr := run_append_grow_src (P := P) w t tx ty e i z ht hi hz none 0 0 [] (by simp [Builtin.firstCells]) x m news hs (by omega) (by simpa using hsmall) (growslice_fits (by omega) hbytes)
   exact ⟨_, _, hr, app_grown hzs hown.1 hs.newsLen (by omega) h63 _⟩
 ·by_cases hroom : n + m ≤ cap
  ·have hfit : o + (n * i.size + news.length) ≤ cur.size := by
    rw [hs.newsLen, ← Nat.add_mul]
    exact Nat.le_trans (Nat.add_le_add_left (Nat.mul_le_mul_right _ hroom) _) hcs
   have hst := run_storeCells_at P g (o + n * i.size) e news 0 cur w hg (by omega) hs.one
   simp only [Nat.add_zero] at hst
   have hr : (Builtin.append_ #[t, tx] ty #[.slice (some ⟨g, o, none⟩) n cap, x]).run P w = .ok (.slice (some ⟨g, o, none⟩) (n + m) cap) (w.setRow g (splice cur.toList (o + n * i.size) news).toArray) := by
    rcases hs.kind with ⟨e', hk⟩ | hk <;> simp [Builtin.append_, run_underlying ht, run_underlying hk, sizeOf, typeInfo, hi, hs.len, hroom, hs.cells, Addr.add_lit, hst, splice]
   have hxl : xs.length = n * i.size := hown.1
   refine ⟨_, _, hr, ⟨hlen, .inr ⟨g, o, cap, _, rfl, setRow_heap w g cur _ e _ hg, hroom, hcm, ?_, ?_⟩⟩, ⟨rfl, rfl, rfl, by simp, fun k _ hk => setRow_other w g k _ (fun e => hk (by simp [Value.ownBlock, e]))⟩, .inr (.inl rfl)⟩
   ·simp only [List.size_toArray]
    rw [splice_length (by simp; omega)]
    simpa using hcs
   ·simp only
    rw [drop_splice (by simp; omega)]
    unfold splice
    rw [htake, ← hlen]
    exact List.take_left
  ·have holds : (Builtin.firstCells i.size n (.slice (some ⟨g, o, none⟩) n cap)).run P w.drew = .ok xs.toArray w.drew :=
    run_firstCells_some w.drew i.size n ⟨g, o, none⟩ n cap xs hown.1 (fun j u hu => by
     obtain ⟨g', o', e1, e2⟩ := row_cell hown (off := 0) (y := .pointer (some ⟨g, o + 0, none⟩)) rfl
     injection e1 with e1; injection e1 with e1; injection e1 with e3 e4
     subst e3
     have := e2 j u hu
     rw [Addr.add_lit]
     simp only [Nat.add_zero] at e4
     subst e4
     simpa using this)
   have hr := run_append_grow_src (P := P) w t tx ty e i z ht hi hz (some ⟨g, o, none⟩) n cap xs holds x m news hs (by omega) hsmall (growslice_fits (by omega) hbytes)
   exact ⟨_, _, hr, app_grown hzs hown.1 hs.newsLen (by omega) h63 _⟩
theorem app_full {w : World} (t tx ty e : TypeId) (i : TypeInfo) (z : Value) (ht : P.underlying t = some (.slice e)) (hi : P.info? e = some i) (hz : i.zero = some z) (hzs : z.cells.size = i.size)
  (a : Addr) (n : Nat) (xs : List Value) (hxl : xs.length = n * i.size) (hx : ∀ j u, xs[j]? = some u → w.cell? (a.add j) = some u) (x : Value) (m : Nat) (news : List Value) (hs : Src P i.size tx x m news w) (hm : 0 < m)
  (h63 : n + m ≤ maxLen) (hbytes : (n + m) * i.bytes ≤ 140737488355328) :
  ∃ v' w', (Builtin.append_ #[t, tx] ty #[.slice (some a) n n, x]).run P w = .ok v' w' ∧ Apped w w' e i.size (n + m) (xs ++ news) v' none := by
 have hsmall : ((n + m : Nat) : Int) ≤ 9223372036854775807 := by simp only [maxLen] at h63; omega
 have holds : (Builtin.firstCells i.size n (.slice (some a) n n)).run P w.drew = .ok xs.toArray w.drew :=
  run_firstCells_some w.drew i.size n a n n xs hxl (by simpa using hx)
 have hr := run_append_grow_src (P := P) w t tx ty e i z ht hi hz (some a) n n xs holds x m news hs (by omega) hsmall (growslice_fits (by omega) hbytes)
 exact ⟨_, _, hr, app_grown hzs hxl hs.newsLen (by omega) h63 _⟩
end

section
variable {w0 : World} {M : Nat → Prop} {H0 : Hp} {ρ : List Value} {H : Hp} {G : List SB} {w : World}
theorem blkAt_dead {k j x : Nat} (h : blkAt ρ (G.set k .dead) j = some x) : j ≠ k ∧ blkAt ρ G j = some x := by
 obtain ⟨s, r, h1, h2, h3⟩ := blkAt_some h
 by_cases hjk : k = j
 ·subst hjk
  rcases Nat.lt_or_ge k G.length with hk | hk
  ·rw [List.getElem?_set_self hk] at h1
   injection h1 with h1; subst h1
   simp [SB.blk] at h3
  ·rw [List.getElem?_eq_none (by simpa using hk)] at h1; cases h1
 ·rw [List.getElem?_set_ne hjk] at h1
  exact ⟨fun e => hjk e.symm, by rw [blkAt_eq h1 h2]; exact h3⟩
theorem St.kill (h : St w0 M H0 ρ H G w) (k : Nat) : St w0 M H0 ρ H (G.set k .dead) w :=
 ⟨h.os, h.tape, h.output, h.size, h.old, h.hle, h.hin, h.hnew, by simp [h.len], fun j s r h1 h2 => by
  by_cases hjk : k = j
  ·subst hjk
   rcases Nat.lt_or_ge k G.length with hk | hk
   ·rw [List.getElem?_set_self hk] at h1
    injection h1 with h1; subst h1; trivial
   ·rw [List.getElem?_eq_none (by simpa using hk)] at h1; cases h1
  ·rw [List.getElem?_set_ne hjk] at h1
   exact h.ok j s r h1 h2, fun j x hx => h.own j x (blkAt_dead hx).2, fun i j x hi hj => h.inj i j x (blkAt_dead hi).2 (blkAt_dead hj).2⟩
theorem St.grew (h : St w0 M H0 ρ H G w) {w' : World} {ob : Option Nat} (hg : w.grownBy w' ob) (hob : ∀ g, ob = some g → (w0.heap.size ≤ g ∨ M g) ∧ H.Out g ∧ ∀ k, blkAt ρ G k ≠ some g) : St w0 M H0 ρ H G w' where
 os := hg.os.trans h.os
 tape := hg.tape.trans h.tape
 output := hg.output.trans h.output
 size := Nat.le_trans h.size hg.size
 old := fun b hb hM => by
  rw [← h.old b hb hM]
  refine hg.block b (Nat.lt_of_lt_of_le hb h.size) fun e => ?_
  rcases (hob b e.symm).1 with h1 | h1
  ·omega
  ·exact hM h1
 hle := h.hle
 hin := fun b o v e => by
  rw [← h.hin b o v e]
  refine cell_of_block (hg.block b (h.hin.lt e) fun e1 => ?_)
  rw [(hob b e1.symm).2.1 o] at e; cases e
 hnew := h.hnew
 len := h.len
 ok := fun k s r h1 h2 => (h.ok k s r h1 h2).move fun x hx => hg.block x ((h.ok k s r h1 h2).lt hx) fun e1 => (hob x e1.symm).2.2 k (by rw [blkAt_eq h1 h2]; exact hx)
 own := h.own
 inj := h.inj
theorem St.adopt (h : St w0 M H0 ρ H G w) {s : SB} {r : Value} (hok : s.Ok (ρ ++ [r]) w r) (hb : ∀ g, s.blk r = some g → (w0.heap.size ≤ g ∨ M g) ∧ H.Out g ∧ ∀ k, blkAt ρ G k ≠ some g) : St w0 M H0 (ρ ++ [r]) H (G ++ [s]) w := by
 have key : ∀ k g, blkAt (ρ ++ [r]) (G ++ [s]) k = some g → (k < G.length ∧ blkAt ρ G k = some g) ∨ (k = G.length ∧ s.blk r = some g) := fun k g hg => by
  obtain ⟨s', r', h1, h2, h3⟩ := blkAt_some hg
  rcases Nat.lt_or_ge k G.length with hk | hk
  ·rw [List.getElem?_append_left hk] at h1
   rw [List.getElem?_append_left (by rw [h.len]; exact hk)] at h2
   exact .inl ⟨hk, by rw [blkAt_eq h1 h2]; exact h3⟩
  ·have hkl := (List.getElem?_eq_some_iff.1 h1).1
   simp at hkl
   obtain rfl : k = G.length := by omega
   rw [List.getElem?_append_right (Nat.le_refl _)] at h1
   rw [List.getElem?_append_right (by rw [h.len]; exact Nat.le_refl _)] at h2
   simp at h1
   simp [h.len] at h2
   subst h1 h2
   exact .inr ⟨rfl, h3⟩
 refine ⟨h.os, h.tape, h.output, h.size, h.old, h.hle, h.hin, h.hnew, by simp [h.len], ?_, ?_, ?_⟩
 ·intro k s' r' h1 h2
  rcases Nat.lt_or_ge k G.length with hk | hk
  ·rw [List.getElem?_append_left hk] at h1
   rw [List.getElem?_append_left (by rw [h.len]; exact hk)] at h2
   exact (h.ok k s' r' h1 h2).mono (Pre.append _ _)
  ·have hkl := (List.getElem?_eq_some_iff.1 h1).1
   simp at hkl
   obtain rfl : k = G.length := by omega
   rw [List.getElem?_append_right (Nat.le_refl _)] at h1
   rw [List.getElem?_append_right (by rw [h.len]; exact Nat.le_refl _)] at h2
   simp at h1
   simp [h.len] at h2
   subst h1 h2
   exact hok
 ·intro k g hg
  rcases key k g hg with ⟨_, h1⟩ | ⟨_, h1⟩
  ·exact h.own k g h1
  ·exact ⟨(hb g h1).1, (hb g h1).2.1⟩
 ·intro i j g hi hj
  rcases key i g hi with ⟨_, a1⟩ | ⟨a0, a1⟩ <;> rcases key j g hj with ⟨_, b1⟩ | ⟨b0, b1⟩
  ·exact h.inj i j g a1 b1
  ·exact absurd a1 ((hb g b1).2.2 i)
  ·exact absurd b1 ((hb g a1).2.2 j)
  ·omega
theorem St.apped (h : St w0 M H0 ρ H G w) {w' : World} {e size n : Nat} {xs : List Value} {v' : Value} {ob : Option Nat} (ha : Apped w w' e size n xs v' ob) {k : Nat} (hob : ∀ g, ob = some g → blkAt ρ G k = some g) :
  St w0 M H0 (ρ ++ [v']) H (G.set k .dead ++ [.row e size n xs]) w' := by
 have hbn : ∀ g, ob = some g → (w0.heap.size ≤ g ∨ M g) ∧ H.Out g ∧ ∀ j, blkAt ρ (G.set k .dead) j ≠ some g := fun g hg =>
  ⟨(h.own k g (hob g hg)).1, (h.own k g (hob g hg)).2, fun j hj => (blkAt_dead hj).1 (h.inj j k g (blkAt_dead hj).2 (hob g hg))⟩
 refine ((h.kill k).grew ha.grown hbn).adopt ha.row fun g hg => ?_
 have hg' : v'.ownBlock = some g := hg
 rcases ha.blk with h1 | h1 | h1
 ·rw [h1] at hg'; cases hg'
 ·rw [h1] at hg'; exact hbn g hg'
 ·rw [h1] at hg'; injection hg' with hg'; subst hg'
  refine ⟨.inl h.size, h.fresh, fun j hj => ?_⟩
  have := h.lt (blkAt_dead hj).2
  omega
end

section
variable {P : Program}
def srcX (T : Tab) (tx : TypeId) (size : Nat) (sx : SV) (H : Hp) (G : List SB) (K : Nat → List Value → Prop) : Prop :=
 tabX T tx fun xi => match xi.k with
  | .string => match sx with
   | .si (.ce (.val (.string s))) => natEq size 1 (K s.size (byteCells s))
   | _ => False
  | .slice _ => match sx with
   | .si (.ce (.val (.slice A m _))) => match A with
    | some a => ∃ ys, ys.length = m * size ∧ RdN H (some a) 0 ys ∧ (∀ u ∈ ys, u.oneCell' = true) ∧ K m ys
    | none => match m with
     | 0 => K 0 []
     | _ + 1 => False
   | .si (.ce (.self k)) => getG G k fun s => match s with
    | .row _ sz m ys => natEq sz size ((∀ u ∈ ys, u.oneCell' = true) ∧ K m ys)
    | .frz (.slice (some _) 0 _) => K 0 []
    | _ => False
   | _ => False
  | _ => False
theorem RdN.cells {H : Hp} {w : World} (hin : H.In w) {a : Addr} {ys : List Value} (h : RdN H (some a) 0 ys) : ∀ (j : Nat) (u : Value), ys[j]? = some u → w.cell? (a.add j) = some u := by
 obtain ⟨b, o, e, h⟩ := h
 injection e with e
 subst e
 intro j u hu
 have := hin _ _ _ (h j u hu)
 rw [Addr.add_lit]
 simpa using this
theorem srcX_ok {T : Tab} (hT : TabOk P T) {tx : TypeId} {size : Nat} {sx : SV} {H : Hp} {G : List SB} {K : Nat → List Value → Prop} (h : srcX T tx size sx H G K) :
  ∃ m ys, K m ys ∧ ∀ ρ w x, Sw ρ H G w → sx.Is ρ x → Src P size tx x m ys w := by
 obtain ⟨xi, hxi, h'⟩ := tabX_ok hT h
 clear h
 split at h'
 ·rename_i hk
  split at h'
  ·rename_i s
   obtain ⟨hsz, h⟩ := natEq_ok h'
   clear h'
   subst hsz
   refine ⟨_, _, h, fun ρ w x hw hx => ?_⟩
   obtain rfl : x = _ := hx
   exact Src.ofString w (hxi.string hk) s
  ·exact h'.elim
 ·rename_i e' hk
  split at h'
  ·rename_i A m c
   split at h'
   ·rename_i a
    obtain ⟨ys, hl, hrd, h1, h⟩ := h'
    refine ⟨_, _, h, fun ρ w x hw hx => ?_⟩
    obtain rfl : x = _ := hx
    exact Src.ofSlice w (hxi.slice hk) a m c ys hl (hrd.cells hw.hin) h1
   ·split at h'
    ·refine ⟨_, _, h', fun ρ w x hw hx => ?_⟩
     obtain rfl : x = _ := hx
     exact Src.ofNil w (hxi.slice hk) c
    ·exact h'.elim
  ·rename_i k
   obtain ⟨s, hs, h⟩ := getG_ok h'
   clear h'
   split at h
   ·obtain ⟨hsz, h1, h2⟩ := natEq_ok h
    clear h
    subst hsz
    refine ⟨_, _, h2, fun ρ w x hw hx => ?_⟩
    have hrow := hw.ok k _ x hs hx
    rcases hrow.2 with ⟨rfl, rfl⟩ | ⟨g, o, cap, cur, rfl, hg, _⟩
    ·rename_i ys
     have : ys = [] := List.eq_nil_of_length_eq_zero (by simpa using hrow.1)
     subst this
     exact Src.ofNil w (hxi.slice hk) 0
    ·exact Src.ofSlice w (hxi.slice hk) ⟨g, o, none⟩ _ cap _ hrow.1 (fun j u hu => by
      obtain ⟨g', o', e1, e2⟩ := row_cell hrow (off := 0) (y := .pointer (some ⟨g, o + 0, none⟩)) rfl
      injection e1 with e1; injection e1 with e1; injection e1 with e3 e4
      subst e3
      have := e2 j u hu
      rw [Addr.add_lit]
      simp only [Nat.add_zero] at e4
      subst e4
      simpa using this) h1
   ·refine ⟨_, _, h, fun ρ w x hw hx => ?_⟩
    obtain rfl : x = _ := hw.ok k _ x hs hx
    exact Src.ofSlice w (hxi.slice hk) _ 0 _ [] (by simp) (fun j u hu => by simp at hu) (fun u hu => by simp at hu)
   ·exact h.elim
  ·exact h'.elim
 ·exact h'.elim
def numX (sx : SV) (A : Int → Prop) (B : Prop) : Prop :=
 match sx with
 | .si (.ce (.val (.int _ n))) => A n
 | _ => B
theorem numX_ok {sx : SV} {A : Int → Prop} {B : Prop} (h : numX sx A B) : (∃ k n, sx = pv (.int k n) ∧ A n) ∨ B := by
 unfold numX at h
 split at h
 ·exact .inl ⟨_, _, rfl, h⟩
 ·exact .inr h
def zerX (T : Tab) (tx e : TypeId) (ei : TI) (ss : SV) (n : Int) (G : List SB) (K : SV → List SB → Prop) : Prop :=
 tabX T tx fun xi => match xi.k with
  | .int _ => match ss with
   | .si (.ce (.val (.slice none 0 0))) => (0 < n ∧ n.toNat * (ei.bytes + 1) ≤ 140737488355328 ∧ 0 < ei.size) ∧ appG G (.row e ei.size n.toNat (List.replicate n.toNat (ei.zero.map Z.val)).flatten) fun G' j => K (.si (.ce (.self j))) G'
   | _ => False
  | _ => False
def appX (T : Tab) (t tx : TypeId) (ss sx : SV) (H : Hp) (G : List SB) (K : SV → List SB → Prop) : Prop :=
 tabX T t fun ti => match ti.k with
  | .slice e => tabX T e fun ei => numX sx (fun n => zerX T tx e ei ss n G K) <| srcX T tx ei.size sx H G fun m ys => match ss with
   | .si (.ce (.self k)) => getG G k fun s => match s with
    | .row e' sz n xs => natEq e' e <| natEq sz ei.size ((n + m) * (ei.bytes + 1) ≤ 140737488355328 ∧ setG G k .dead fun G' => appG G' (.row e ei.size (n + m) (xs ++ ys)) fun G'' j => K (.si (.ce (.self j))) G'')
    | _ => False
   | .si (.ce (.val (.slice A n c))) => match A with
    | none => match n, c with
     | 0, 0 => m * (ei.bytes + 1) ≤ 140737488355328 ∧ appG G (.row e ei.size m ys) fun G' j => K (.si (.ce (.self j))) G'
     | _, _ => False
    | some a => (m = 0 → n ≤ c ∧ (∃ b o, a = ⟨b, o, none⟩) ∧ K (.si (.ce (.val (.slice (some a) n c)))) G) ∧ (0 < m → n = c ∧ ∃ xs, xs.length = n * ei.size ∧ RdN H (some a) 0 xs ∧ (n + m) * (ei.bytes + 1) ≤ 140737488355328 + (n + m) * Nat.min ei.bytes 1 ∧ appG G (.row e ei.size (n + m) (xs ++ ys)) fun G' j => K (.si (.ce (.self j))) G')
   | _ => False
  | _ => False
theorem mul_le_of_succ {a b c : Nat} (h : a * (b + 1) ≤ c) : a * b ≤ c ∧ a ≤ c := by rw [Nat.mul_succ] at h; omega
theorem appX_ok {T : Tab} (hT : TabOk P T) {o : Oper} {t tx : TypeId} {s x : Operand} (ho : o.op = .call ⟨.builtin .append, #[s, x], #[t, tx]⟩) {F : Fr} {H : Hp} {G : List SB} {K : SV → Hp → List SB → Prop} {Kp : List PanicEntry → Hp → List SB → Prop}
  (h : evX s F fun ss => evX x F fun sx => appX T t tx ss sx H G fun sv G' => K sv H G') : LO P o F H G K Kp := by
 obtain ⟨ss, hx1, hss⟩ := evX_ok h
 clear h
 obtain ⟨sx, hx2, hsx⟩ := evX_ok hx1
 clear hx1
 obtain ⟨ti, ht, h⟩ := tabX_ok hT hx2
 clear hx2
 have b1 : ∀ (a : Act), (#[s, x] : Array Operand).map a.eval = #[a.eval s, a.eval x] := fun a => by simp
 cases hk : ti.k with
 | slice e =>
  simp only [hk] at h
  obtain ⟨ei, he, hx1⟩ := tabX_ok hT h
  clear h
  have hx0 := numX_ok hx1
  clear hx1
  rcases hx0 with ⟨kn, nn, rfl, hz0⟩ | hx1
  ·obtain ⟨xi, hxt, hz1⟩ := tabX_ok hT hz0
   clear hz0
   cases hxk : xi.k with
   | int kx =>
    simp only [hxk] at hz1
    split at hz1
    ·obtain ⟨⟨hn0, hnb, hsz⟩, h2⟩ := hz1
     have h := appG_ok h2
     clear h2
     obtain ⟨i, z, hi, hi1, hi2, hz, hzc⟩ := he.info
     have hzs : z.cells.size = i.size := by rw [← Array.length_toList, hzc, List.length_map, he.zlen, hi1]
     obtain ⟨hb1, hb2⟩ := mul_le_of_succ hnb
     rw [← hi2] at hb1
     intro w0 M hgd H0 ρ a w hs hf
     have e0 : a.eval s = .slice none 0 0 := hss ρ a hf
     have e1 : a.eval x = .int kn nn := hsx ρ a hf
     have e2 : nn = ((nn.toNat : Nat) : Int) := by omega
     have hr := Go.Lib.run_append_nil_zeros (P := P) w t tx o.type e i z kn kx (ht.slice hk) (hxt.int hxk) hi hz nn.toNat (by omega) (by rw [hi1]; exact hsz) (by omega) (by omega)
     have hzl : Builtin.zeroCells z.cells nn.toNat = ((List.replicate nn.toNat (ei.zero.map Z.val)).flatten).toArray := by
      have := zeroCells_rep z.cells nn.toNat
      unfold Builtin.zeroCells
      rw [this, hzc]
     have hap := app_grown (w := w) (e := e) (i := i) (z := z) hzs (n := 0) (m := nn.toNat) (old := 0) (xs := []) (news := (List.replicate nn.toNat (ei.zero.map Z.val)).flatten) (by simp) (by simp [he.zlen, hi1]) (by omega) (by simp only [maxLen]; omega) none
     simp only [Nat.zero_add, List.nil_append] at hap
     have hrun : (execOp a.eval o).run P w = .ok (.value (.slice (some ⟨w.heap.size, 0, none⟩) nn.toNat (grownCap w nn.toNat 0 e))) (w.drew.alloc (.cells ((List.replicate nn.toNat (ei.zero.map Z.val)).flatten.toArray ++ Builtin.zeroCells z.cells (grownCap w nn.toNat 0 e - nn.toNat)) e)) := by
      simp only [execOp, ho, resolve, invoke, builtin, b1, Sem.run_bind, Sem.run_pure, Result.andThen_ok, e0, e1]
      rw [e2] at hr ⊢
      rw [Int.toNat_natCast] at hr ⊢
      rw [hr, hzl]
      rfl
     rw [hrun]
     rw [hi1] at hap
     have hst := hs.apped hap (k := G.length) (fun g hg => by cases hg)
     rw [List.set_eq_of_length_le (Nat.le_refl _)] at hst
     refine ⟨_, ρ ++ [_], H, _, hst, Pre.append _ _, ?_, .refl _, h⟩
     show (ρ ++ [_])[_]? = some _
     rw [List.getElem?_append_right (by simp [hs.len])]
     simp [hs.len]
    ·exact hz1.elim
   | _ => simp only [hxk] at hz1
  obtain ⟨m, ys, h, hsrc⟩ := srcX_ok hT hx1
  clear hx1
  obtain ⟨i, z, hi, hi1, hi2, hz, hzc⟩ := he.info
  have hzs : z.cells.size = i.size := by rw [← Array.length_toList, hzc, List.length_map, he.zlen, hi1]
  rw [← hi1] at hsrc h
  rw [← hi2] at h
  have hbd : ∀ n, (n + m) * (i.bytes + 1) ≤ 140737488355328 → n + m ≤ maxLen ∧ (n + m) * i.bytes ≤ 140737488355328 := fun n hn => by
   obtain ⟨h1, h2⟩ := mul_le_of_succ hn
   exact ⟨by simp only [maxLen]; omega, h1⟩
  have hbd2 : ∀ n, (n + m) * (i.bytes + 1) ≤ 140737488355328 + (n + m) * Nat.min i.bytes 1 → n + m ≤ maxLen ∧ (n + m) * i.bytes ≤ 140737488355328 := fun n hn => by
   rcases Nat.eq_zero_or_pos i.bytes with h0 | h0
   ·rw [h0] at hn ⊢
    have hn : (n + m) * 1 ≤ 140737488355328 + (n + m) * 0 := hn
    exact ⟨by simp only [maxLen]; omega, by omega⟩
   ·have hm1 : Nat.min i.bytes 1 = 1 := Nat.min_eq_right h0
    rw [hm1, Nat.mul_one, Nat.mul_succ] at hn
    have h1 : (n + m) * 1 ≤ (n + m) * i.bytes := Nat.mul_le_mul_left _ h0
    exact ⟨by simp only [maxLen]; omega, by omega⟩
  have hrun : ∀ (a : Act) (w : World), (execOp a.eval o).run P w = ((Builtin.append_ #[t, tx] o.type #[a.eval s, a.eval x]).run P w).andThen fun v w' => .ok (.value v) w' := fun a w => by
   simp only [execOp, ho, resolve, invoke, builtin, b1, Sem.run_bind, Sem.run_pure, Result.andThen_ok]
  split at h
  ·rename_i k
   obtain ⟨sb, hsb, h'⟩ := getG_ok h
   clear h
   split at h'
   ·rename_i e' sz n xs
    obtain ⟨he', hx1⟩ := natEq_ok h'
    clear h'
    obtain ⟨hsz, hb, hx2⟩ := natEq_ok hx1
    clear hx1
    subst he' hsz
    obtain ⟨_, hx3⟩ := setG_ok hx2
    clear hx2
    have h := appG_ok hx3
    clear hx3
    intro w0 M hgd H0 ρ a w hs hf
    have hρ : ρ[k]? = some (a.eval s) := hss ρ a hf
    obtain ⟨h63, hby⟩ := hbd n hb
    obtain ⟨v', w', hr, hap⟩ := app_own t tx o.type e' i z (ht.slice hk) hi hz hzs (a.eval s) n xs (hs.ok k _ _ hsb hρ) (a.eval x) m ys (hsrc ρ w _ hs.sw (hsx ρ a hf)) h63 hby
    rw [hrun, hr]
    refine ⟨_, ρ ++ [v'], H, _, hs.apped hap (k := k) (fun g hg => by rw [blkAt_eq hsb hρ]; exact hg), Pre.append _ _, ?_, .refl _, h⟩
    show (ρ ++ [v'])[_]? = some v'
    rw [List.getElem?_append_right (by simp [hs.len])]
    simp [hs.len]
   ·exact h'.elim
  ·rename_i A n c
   split at h
   ·split at h
    ·obtain ⟨hb, hx1⟩ := h
     have h := appG_ok hx1
     clear hx1
     intro w0 M hgd H0 ρ a w hs hf
     have e0 : a.eval s = .slice none 0 0 := hss ρ a hf
     obtain ⟨h63, hby⟩ := hbd 0 (by simpa using hb)
     obtain ⟨v', w', hr, hap⟩ := app_own t tx o.type e i z (ht.slice hk) hi hz hzs (a.eval s) 0 [] (by rw [e0]; exact OwnRow.nil w e i.size) (a.eval x) m ys (hsrc ρ w _ hs.sw (hsx ρ a hf)) h63 hby
     rw [hrun, hr]
     rw [e0] at hap
     simp only [Nat.zero_add, List.nil_append] at hap
     have hst := hs.apped hap (k := G.length) (fun g hg => by cases hg)
     rw [List.set_eq_of_length_le (Nat.le_refl _)] at hst
     refine ⟨_, ρ ++ [v'], H, _, hst, Pre.append _ _, ?_, .refl _, h⟩
     show (ρ ++ [v'])[_]? = some v'
     rw [List.getElem?_append_right (by simp [hs.len])]
     simp [hs.len]
    ·exact h.elim
   ·rename_i aa
    rcases Nat.eq_zero_or_pos m with hm | hm
    ·obtain ⟨hnc, ⟨b, o', hab⟩, hx1⟩ := h.1 hm
     subst hm hab
     intro w0 M hgd H0 ρ a w hs hf
     have e0 : a.eval s = .slice (some ⟨b, o', none⟩) n c := hss ρ a hf
     have hsr := hsrc ρ w _ hs.sw (hsx ρ a hf)
     have hnil : ys = [] := List.eq_nil_of_length_eq_zero (by simpa using hsr.newsLen)
     subst hnil
     have hr := run_append_room_src (P := P) w t tx o.type e i (ht.slice hk) hi b o' n c (a.eval x) 0 [] hsr (by omega) (by simp) (by simp)
     rw [hrun, e0, hr]
     exact ⟨.si (.ce (.val (.slice (some ⟨b, o', none⟩) n c))), ρ, H, G, hs, .refl _, rfl, .refl _, hx1⟩
    ·replace h := h.2 hm
     obtain ⟨hnc, xs, hxl, hrd, hb, hx1⟩ := h
     subst hnc
     have h := appG_ok hx1
     clear hx1
     intro w0 M hgd H0 ρ a w hs hf
     have e0 : a.eval s = .slice (some aa) n n := hss ρ a hf
     obtain ⟨h63, hby⟩ := hbd2 n hb
     obtain ⟨v', w', hr, hap⟩ := app_full t tx o.type e i z (ht.slice hk) hi hz hzs aa n xs hxl (hrd.cells hs.hin) (a.eval x) m ys (hsrc ρ w _ hs.sw (hsx ρ a hf)) hm h63 hby
     rw [hrun, e0, hr]
     have hst := hs.apped hap (k := G.length) (fun g hg => by cases hg)
     rw [List.set_eq_of_length_le (Nat.le_refl _)] at hst
     refine ⟨_, ρ ++ [v'], H, _, hst, Pre.append _ _, ?_, .refl _, h⟩
     show (ρ ++ [v'])[_]? = some v'
     rw [List.getElem?_append_right (by simp [hs.len])]
     simp [hs.len]
  ·exact h.elim
 | _ => simp only [hk] at h
end
end Go.Kx
namespace Go.Kx
open Go.RowKit Go.Lib

section
variable {w0 : World} {M : Nat → Prop} {H0 : Hp} {ρ : List Value} {H : Hp} {G : List SB} {w : World}
theorem St.lay2 (h : St w0 M H0 ρ H G w) {w' : World} (hg : w.grownBy w' none) {H' : Hp} (hle : H.Le H') (hH : ∀ b i v, H' b i = some v → H b i = some v ∨ (b = w.heap.size ∧ w'.cell? ⟨b, i, none⟩ = some v)) : St w0 M H0 ρ H' G w' := by
 have h' := h.grew (ob := none) hg (fun g e => by cases e)
 refine ⟨h'.os, h'.tape, h'.output, h'.size, h'.old, h'.hle.trans hle, ?_, ?_, h'.len, h'.ok, ?_, h'.inj⟩
 ·intro b i v e
  rcases hH b i v e with e | ⟨_, e⟩
  ·exact h'.hin b i v e
  ·exact e
 ·intro b i v e
  rcases hH b i v e with e | ⟨rfl, _⟩
  ·exact h'.hnew b i v e
  ·exact .inr (.inl h.size)
 ·intro k g hk
  refine ⟨(h'.own k g hk).1, fun i => ?_⟩
  cases e : H' g i with
  | none => rfl
  | some v =>
   rcases hH g i v e with e | ⟨e, _⟩
   ·rw [(h'.own k g hk).2 i] at e; cases e
   ·have := h.lt hk; omega
end

section
variable {P : Program}
def s2bX (s : ByteArray) (H : Hp) (K : SV → Hp → Prop) : Prop :=
 ∀ (g cap : Nat) (H' : Hp), H.Le H' → s.size ≤ cap → RdN H' (some ⟨g, 0, none⟩) 0 (byteCells s) → K (pv (.slice (some ⟨g, 0, none⟩) s.size cap)) H'
theorem s2bX_ok {o : Oper} {s d e : TypeId} {x : Operand} (ho : o.op = .convert s d x) {u : TypeDesc} (hs : P.underlying s = some u) (hd : P.underlying d = some (.slice e)) (he : P.underlying e = some (.int .u8)) {F : Fr} {H : Hp} {G : List SB} {K : SV → Hp → List SB → Prop} {Kp : List PanicEntry → Hp → List SB → Prop}
  {sx : SV} (hx : ∀ ρ (a : Act), FOk ρ F a.tmps → sx.Is ρ (a.eval x)) (h1 : strX sx fun str => s2bX str H fun sv H' => K sv H' G) : LO P o F H G K Kp := by
 obtain ⟨str, rfl, h2⟩ := strX_ok h1
 intro w0 M hgd H0 ρ a w hst hf
 have hv : a.eval x = .string str := hx ρ a hf
 have hrun : (execOp a.eval o).run P w = .ok (.value (.slice (some ⟨w.heap.size, 0, none⟩) str.size (grownCap w str.size 0 e))) (bytesWorld w e str) := by
  simp [execOp, ho, hv, run_convert_string_bytes w s d e str hs hd he]
 rw [hrun]
 have hgr : w.grownBy (bytesWorld w e str) none := ⟨rfl, rfl, rfl, by rw [bytesWorld_size]; omega, fun k hk _ => bytesWorld_at_old w e str k hk⟩
 refine ⟨_, ρ, H.put w.heap.size (byteCells str), G, hst.lay2 hgr (Hp.put_le hst.fresh) ?_, .refl _, pv_is _ _, Hp.put_le hst.fresh, h2 w.heap.size _ _ (Hp.put_le hst.fresh) (grownCap_ge w str.size 0 e) Hp.put_rd⟩
 intro b i v ev
 rcases Hp.put_inv ev with e1 | ⟨rfl, e1⟩
 ·exact .inl e1
 ·refine .inr ⟨rfl, ?_⟩
  have hi : i < str.size := by have := (List.getElem?_eq_some_iff.1 e1).1; rw [byteCells_length] at this; exact this
  rw [bytesWorld_cell w e str i hi]
  rw [← e1]
  have hi' : i < str.data.toList.length := by rw [Array.length_toList]; exact hi
  simp [byteCells, List.getD_eq_getElem?_getD, List.getElem?_eq_getElem hi']

theorem foldl_push (l : List UInt8) (acc : ByteArray) : ((l.map fun b => ((b.toNat : Nat) : Int)).foldl (fun r n => r.push (UInt8.ofNat n.toNat)) acc).data.toList = acc.data.toList ++ l := by
 induction l generalizing acc with
 | nil => simp
 | cons b l ih =>
  rw [List.map_cons, List.foldl_cons, ih]
  simp [ByteArray.push]
theorem fold_bytes (s : ByteArray) : (s.data.toList.map fun b => ((b.toNat : Nat) : Int)).foldl (fun r n => r.push (UInt8.ofNat n.toNat)) ByteArray.empty = s := by
 have h := foldl_push s.data.toList ByteArray.empty
 generalize (s.data.toList.map fun b => ((b.toNat : Nat) : Int)).foldl (fun r n => r.push (UInt8.ofNat n.toNat)) ByteArray.empty = t at h
 have h0 : (ByteArray.empty).data.toList = [] := rfl
 rw [h0, List.nil_append] at h
 cases s; cases t
 simp only at h
 rw [Array.toList_inj.1 h]
theorem byteCells_map (s : ByteArray) : byteCells s = (s.data.toList.map fun b => ((b.toNat : Nat) : Int)).map (Value.int .u8) := by
 simp [byteCells]
def b2sX (sx : SV) (H : Hp) (G : List SB) (K : SV → Prop) : Prop :=
 match sx with
 | .si (.ce (.val (.slice A n _))) => match A with
  | none => K (pv (.string ⟨#[]⟩))
  | some a => ∃ bs : ByteArray, bs.size = n ∧ (n = 0 ∨ RdN H (some a) 0 (byteCells bs)) ∧ K (pv (.string bs))
 | .si (.ce (.self k)) => getG G k fun s => match s with
  | .row _ sz _ xs => natEq sz 1 (∃ bs : ByteArray, xs = byteCells bs ∧ K (pv (.string bs)))
  | _ => False
 | _ => False
theorem run_b2s {w : World} {a : Addr} {n cap : Nat} {bs : ByteArray} (hn : bs.size = n) (hc : ∀ (j : Nat) (u : Value), (byteCells bs)[j]? = some u → w.cell? (a.add j) = some u) : (Conv.bytesToString (.slice (some a) n cap)).run P w = .ok (.string bs) w := by
 have hl := run_loadCells_list (P := P) w a (byteCells bs) hc
 rw [byteCells_length, hn, byteCells_map] at hl
 rw [run_bytesToString w a n cap _ hl, fold_bytes]
theorem b2sX_ok {o : Oper} {s d e : TypeId} {x : Operand} (ho : o.op = .convert s d x) (hs : P.underlying s = some (.slice e)) (hd : P.underlying d = some .string) (he : P.underlying e = some (.int .u8)) {F : Fr} {H : Hp} {G : List SB} {K : SV → Prop}
  (h : evX x F fun sx => b2sX sx H G K) : QO P o F H G K := by
 obtain ⟨sx, h1, hx⟩ := evX_ok h
 clear h
 have conv : ∀ (a : Act) (w : World) (r : Value) (A : Option Addr) (n c : Nat), a.eval x = .slice A n c → (Conv.bytesToString (.slice A n c)).run P w = .ok r w → (execOp a.eval o).run P w = .ok (.value r) w := by
  intro a w r A n c e1 e2
  simp [execOp, ho, e1, convert, run_underlying hs, run_underlying hd, run_underlying he, e2, Result.andThen]
 unfold b2sX at h1
 split at h1
 ·rename_i A n c
  split at h1
  ·refine ⟨_, h1, fun ρ a wc hf hw => ⟨_, pv_is _ _, fun w hw' => ?_⟩⟩
   have hv : a.eval x = .slice none n c := hx ρ a hf
   exact conv a w _ _ _ _ hv (by simp [Conv.bytesToString]; rfl)
  ·rename_i aa
   obtain ⟨bs, hn, hrd, h2⟩ := h1
   refine ⟨_, h2, fun ρ a wc hf hw => ⟨_, pv_is _ _, fun w hw' => ?_⟩⟩
   have hv : a.eval x = .slice (some aa) n c := hx ρ a hf
   refine conv a w _ _ _ _ hv (run_b2s hn ?_)
   rcases hrd with h0 | hrd
   ·intro j u hu
    have := (List.getElem?_eq_some_iff.1 hu).1
    rw [byteCells_length] at this
    omega
   ·exact hrd.cells hw'.hin
 ·rename_i k
  obtain ⟨sb, hsb, h2⟩ := getG_ok h1
  clear h1
  split at h2
  ·rename_i e' sz n xs
   obtain ⟨hsz, bs, hbs, h3⟩ := natEq_ok h2
   clear h2
   subst hsz hbs
   refine ⟨_, h3, fun ρ a wc hf hw => ⟨_, pv_is _ _, fun w hw' => ?_⟩⟩
   have hrow := hw'.ok k _ (a.eval x) hsb (hx ρ a hf)
   have hlen := hrow.1
   rw [byteCells_length, Nat.mul_one] at hlen
   rcases hrow.2 with ⟨e1, e2⟩ | ⟨g, o', cap, cur, e1, hg, _⟩
   ·subst e2
    have hz : bs = ⟨#[]⟩ := by
     cases bs with | mk d =>
     have : d.size = 0 := hlen
     rw [Array.eq_empty_of_size_eq_zero this]
    rw [hz]
    exact conv a w _ _ _ _ e1 (by simp [Conv.bytesToString]; rfl)
   ·refine conv a w _ _ _ _ e1 (run_b2s hlen fun j u hu => ?_)
    rw [e1] at hrow
    obtain ⟨g', o2, e3, e4⟩ := row_cell hrow (off := 0) (y := .pointer (some ⟨g, o' + 0, none⟩)) rfl
    injection e3 with e3; injection e3 with e3; injection e3 with e5 e6
    subst e5
    have := e4 j u hu
    rw [Addr.add_lit]
    simp only [Nat.add_zero] at e6
    subst e6
    simpa using this
  ·exact h2.elim
 ·exact h1.elim
def mkX (T : Tab) (t : TypeId) (sl sc : SV) (G : List SB) (K : SV → List SB → Prop) : Prop :=
 tabX T t fun ti => match ti.k with
  | .slice e => tabX T e fun ei => intX sl fun _ l => intX sc fun _ c => (0 ≤ l ∧ l ≤ c ∧ (ei.bytes : Int) * c ≤ 281474976710656 ∧ c ≤ 9223372036854775807) ∧
   appG G (.row e ei.size l.toNat (List.replicate l.toNat (ei.zero.map Z.val)).flatten) fun G' j => K (.si (.ce (.self j))) G'
  | _ => False
theorem madeCells_take (z : Array Value) (n m : Nat) (h : n ≤ m) : (madeCells z (m * z.size)).toList.take (n * z.size) = (List.replicate n z.toList).flatten := by
 have h1 : madeCells z (m * z.size) = ((List.replicate m z.toList).flatten).toArray := zeroCells_rep z m
 rw [h1]
 obtain ⟨d, rfl⟩ : ∃ d, m = n + d := ⟨m - n, by omega⟩
 rw [← List.replicate_append_replicate, List.flatten_append]
 have hl : ((List.replicate n z.toList).flatten).length = n * z.size := by simp
 rw [← hl]
 exact List.take_left
theorem mkX_ok {T : Tab} (hT : TabOk P T) {o : Oper} {t : TypeId} {l c : Operand} (ho : o.op = .makeSlice t l c) {F : Fr} {H : Hp} {G : List SB} {K : SV → Hp → List SB → Prop} {Kp : List PanicEntry → Hp → List SB → Prop}
  (h : evX l F fun sl => evX c F fun sc => mkX T t sl sc G fun sv G' => K sv H G') : LO P o F H G K Kp := by
 obtain ⟨sl, h1, hl⟩ := evX_ok h
 obtain ⟨sc, h2, hc⟩ := evX_ok h1
 clear h h1
 obtain ⟨ti, ht, h⟩ := tabX_ok hT h2
 clear h2
 cases hk : ti.k with
 | slice e =>
  simp only [hk] at h
  obtain ⟨ei, he, h1⟩ := tabX_ok hT h
  obtain ⟨kl, lv, rfl, h2⟩ := intX_ok h1
  obtain ⟨kc, cv, rfl, ⟨hl0, hlc, hby, h63⟩, h4⟩ := intX_ok h2
  have h5 := appG_ok h4
  clear h h1 h2 h4
  obtain ⟨i, z, hi, hi1, hi2, hz, hzc⟩ := he.info
  intro w0 M hgd H0 ρ a w hs hf
  have e1 : a.eval l = .int kl lv := hl ρ a hf
  have e2 : a.eval c = .int kc cv := hc ρ a hf
  have hr := run_make (P := P) w t e i z (ht.slice hk) hi hz kl kc lv cv hl0 hlc (by rw [hi2]; exact hby) h63
  have hrun : (execOp a.eval o).run P w = .ok (.value (.slice (some ⟨w.heap.size, 0, none⟩) lv.toNat cv.toNat)) (w.alloc (.cells (madeCells z.cells (cv.toNat * i.size)) e)) := by
   simp [execOp, ho, e1, e2, hr]
  rw [hrun]
  have hzs : z.cells.size = i.size := by rw [← Array.length_toList, hzc, List.length_map, he.zlen, hi1]
  have hcm : cv.toNat ≤ maxLen := by simp only [maxLen]; omega
  refine ⟨_, ρ ++ [.slice (some ⟨w.heap.size, 0, none⟩) lv.toNat cv.toNat], H, _, hs.new (s := .row e ei.size lv.toNat (List.replicate lv.toNat (ei.zero.map Z.val)).flatten) ⟨by simp [he.zlen], .inr ⟨w.heap.size, 0, cv.toNat, _, rfl, heap_push_new, by omega, hcm, ?_, ?_⟩⟩ rfl, Pre.append _ _, ?_, .refl _, h5⟩
  ·rw [size_madeCells, hi1]; omega
  ·rw [List.drop_zero, ← hzs, ← hi1, ← hzs, madeCells_take _ _ _ (by omega), hzc]
  ·show (ρ ++ [_])[G.length]? = some _
   rw [List.getElem?_append_right (by rw [hs.len]; exact Nat.le_refl _)]
   simp [hs.len]
 | _ => simp only [hk] at h

def copyX (T : Tab) (t tx : TypeId) (sd sx : SV) (H : Hp) (G : List SB) (K : SV → List SB → Prop) : Prop :=
 tabX T t fun ti => match ti.k with
  | .slice e => tabX T e fun ei => srcX T tx ei.size sx H G fun m ys => match sd with
   | .si (.ce (.self k)) => getG G k fun s => match s with
    | .row e' sz n xs => natEq sz ei.size ((m ≤ n ∧ 0 < n) ∧ setG G k (.row e' sz n (splice xs 0 ys)) fun G' => K (pv (.int .i64 m)) G')
    | _ => False
   | .si (.ce (.cut k z lo mm)) => getG G k fun s => match s with
    | .row e' sz n xs => natEq z ei.size (natEq sz ei.size ((m ≤ mm ∧ 0 < mm) ∧ setG G k (.row e' sz n (splice xs (lo * sz) ys)) fun G' => K (pv (.int .i64 m)) G'))
    | _ => False
   | _ => False
  | _ => False
theorem copyX_ok {T : Tab} (hT : TabOk P T) {o : Oper} {t tx : TypeId} {s x : Operand} (ho : o.op = .call ⟨.builtin .copy, #[s, x], #[t, tx]⟩) {F : Fr} {H : Hp} {G : List SB} {K : SV → Hp → List SB → Prop} {Kp : List PanicEntry → Hp → List SB → Prop}
  (h : evX s F fun ss => evX x F fun sx => copyX T t tx ss sx H G fun sv G' => K sv H G') : LO P o F H G K Kp := by
 obtain ⟨ss, h1, hss⟩ := evX_ok h
 obtain ⟨sx, h2, hsx⟩ := evX_ok h1
 clear h h1
 obtain ⟨ti, ht, h⟩ := tabX_ok hT h2
 clear h2
 have b1 : ∀ (a : Act), (#[s, x] : Array Operand).map a.eval = #[a.eval s, a.eval x] := fun a => by simp
 cases hk : ti.k with
 | slice e =>
  simp only [hk] at h
  obtain ⟨ei, he, h1⟩ := tabX_ok hT h
  obtain ⟨m, ys, h2, hsrc⟩ := srcX_ok hT h1
  clear h h1
  split at h2
  ·rename_i k
   obtain ⟨sb, hsb, h3⟩ := getG_ok h2
   clear h2
   split at h3
   ·rename_i e' sz n xs
    obtain ⟨hsz, ⟨hmn, hn0⟩, h4⟩ := natEq_ok h3
    obtain ⟨_, h5⟩ := setG_ok h4
    clear h3 h4
    subst hsz
    obtain ⟨i, z, hi, hi1, hi2, hz, hzc⟩ := he.info
    intro w0 M hgd H0 ρ a w hs hf
    have hρ : ρ[k]? = some (a.eval s) := hss ρ a hf
    have hrow := hs.ok k _ _ hsb hρ
    have hS := hsrc ρ w _ hs.sw (hsx ρ a hf)
    rcases hrow.2 with ⟨_, hn⟩ | ⟨g, oo, cap, cur, e1, hg, hnc, hcm, hcs, htk⟩
    ·omega
    have hxl : xs.length = n * ei.size := hrow.1
    have hms : m * ei.size ≤ n * ei.size := Nat.mul_le_mul_right _ hmn
    have hns : n * ei.size ≤ cap * ei.size := Nat.mul_le_mul_right _ hnc
    have hyl : ys.length = m * ei.size := hS.newsLen
    have hst := run_storeCells_at P g oo e' ys 0 cur w hg (by omega) hS.one
    simp only [Nat.add_zero] at hst
    have hmin : Nat.min m n = m := Nat.min_eq_left hmn
    have hcells := hS.cells
    have hrun : (execOp a.eval o).run P w = .ok (.value (.int .i64 m)) (w.setRow g (splice cur.toList oo ys).toArray) := by
     simp [execOp, ho, resolve, b1, e1, invoke, builtin, Builtin.copy_, run_underlying (ht.slice hk), hS.len w, hmin, he.sizeOf w, hcells, hst, splice, goInt, Result.andThen]
    rw [hrun]
    refine ⟨_, ρ, H, _, hs.turn (g := g) hsb hρ (by rw [e1]; rfl) rfl rfl rfl (by simp) (fun b _ hne => setRow_other w g b _ hne) (s' := .row e' ei.size n (splice xs 0 ys)) ⟨by rw [splice_length (by omega)]; exact hxl, .inr ⟨g, oo, cap, _, e1, setRow_heap w g _ _ _ _ hg, hnc, hcm, ?_, ?_⟩⟩ (.inl (by rw [e1]; rfl)), .refl _, pv_is _ _, .refl _, h5⟩
    ·simp only [List.size_toArray]
     rw [splice_length (by simp; omega)]
     simpa using hcs
    ·simp only
     have := drop_splice (l := cur.toList) (o := oo) (off := 0) (ys := ys) (by simp; omega)
     rw [Nat.add_zero] at this
     rw [this, take_splice (by omega) (by simp; omega), htk]
   ·exact h3.elim
  ·rename_i k zz lo mm
   obtain ⟨sb, hsb, h3⟩ := getG_ok h2
   clear h2
   split at h3
   ·rename_i e' sz n xs
    obtain ⟨rfl, h3'⟩ := natEq_ok h3
    obtain ⟨hsz, ⟨hmm, hm0⟩, h4⟩ := natEq_ok h3'
    obtain ⟨_, h5⟩ := setG_ok h4
    clear h3 h3' h4
    subst hsz
    obtain ⟨i, z, hi, hi1, hi2, hz, hzc⟩ := he.info
    intro w0 M hgd H0 ρ a w hs hf
    obtain ⟨r, hρ, hcut⟩ := hss ρ a hf
    obtain ⟨A, n2, cap2, rfl, hlm, ex⟩ := cutV_slice hcut
    have hrow := hs.ok k _ _ hsb hρ
    have hS := hsrc ρ w _ hs.sw (hsx ρ a hf)
    rcases hrow.2 with ⟨e1, hn⟩ | ⟨g, oo, cap, cur, e1, hg, hnc, hcm, hcs, htk⟩
    ·injection e1 with e1 e2 e3
     subst e2
     omega
    injection e1 with e1 e2 e3
    subst e1 e2 e3
    have ex' : a.eval s = .slice (some ⟨g, oo + lo * ei.size, none⟩) mm (cap2 - lo) := by
     rw [ex, if_neg (by omega), Option.map_some, Addr.add_lit]
    have hxl : xs.length = n2 * ei.size := hrow.1
    have hms : (lo + m) * ei.size ≤ n2 * ei.size := Nat.mul_le_mul_right _ (by omega)
    have hns : n2 * ei.size ≤ cap2 * ei.size := Nat.mul_le_mul_right _ hnc
    have hyl : ys.length = m * ei.size := hS.newsLen
    rw [Nat.add_mul] at hms
    have hst := run_storeCells_at P g (oo + lo * ei.size) e' ys 0 cur w hg (by omega) hS.one
    simp only [Nat.add_zero] at hst
    have hmin : Nat.min m mm = m := Nat.min_eq_left hmm
    have hcells := hS.cells
    have hrun : (execOp a.eval o).run P w = .ok (.value (.int .i64 m)) (w.setRow g (splice cur.toList (oo + lo * ei.size) ys).toArray) := by
     simp [execOp, ho, resolve, b1, ex', invoke, builtin, Builtin.copy_, run_underlying (ht.slice hk), hS.len w, hmin, he.sizeOf w, hcells, hst, splice, goInt, Result.andThen]
    rw [hrun]
    refine ⟨_, ρ, H, _, hs.turn (g := g) hsb hρ rfl rfl rfl rfl (by simp) (fun b _ hne => setRow_other w g b _ hne) (s' := .row e' ei.size n2 (splice xs (lo * ei.size) ys)) ⟨by rw [splice_length (by omega)]; exact hxl, .inr ⟨g, oo, cap2, _, rfl, setRow_heap w g _ _ _ _ hg, hnc, hcm, ?_, ?_⟩⟩ (.inl rfl), .refl _, pv_is _ _, .refl _, h5⟩
    ·simp only [List.size_toArray]
     rw [splice_length (by simp; omega)]
     simpa using hcs
    ·simp only
     rw [drop_splice (by simp; omega), take_splice (by omega) (by simp; omega), htk]
   ·exact h3.elim
  ·exact h2.elim
 | _ => simp only [hk] at h

def loIs (lo : Option Operand) (a : Act) (l : Int) : Prop :=
 match lo with
 | none => l = 0
 | some u => ∃ k, a.eval u = .int k l
def hiIs (hi : Option Operand) (a : Act) (h : Option Int) : Prop :=
 match hi, h with
 | none, none => True
 | some u, some h => ∃ k, a.eval u = .int k h
 | _, _ => False
def cutX (T : Tab) (t : TypeId) (sx : SV) (lo : Int) (hi : Option Int) (G : List SB) (K : SV → List SB → Prop) : Prop :=
 tabX T t fun ti => match ti.k with
  | .slice e => tabX T e fun ei => match sx with
   | .si (.ce (.self k)) => getG G k fun s => match s with
    | .row e' sz n xs => natEq sz ei.size (match hi with
     | none => (0 ≤ lo ∧ lo ≤ (n : Int)) ∧ setG G k .dead fun G' => appG G' (.row e' sz (n - lo.toNat) (xs.drop (lo.toNat * sz))) fun G'' j => K (.si (.ce (.self j))) G''
     | some h => (0 ≤ lo ∧ lo ≤ h ∧ h ≤ (n : Int)) ∧ setG G k .dead fun G' => appG G' (.row e' sz (h.toNat - lo.toNat) ((xs.drop (lo.toNat * sz)).take ((h.toNat - lo.toNat) * sz))) fun G'' j => K (.si (.ce (.self j))) G'')
    | _ => False
   | _ => False
  | _ => False
theorem OwnRow.cut {w : World} {e sz n : Nat} {A : Option Addr} {cap : Nat} {xs : List Value} (h : OwnRow w e sz (.slice A n cap) n xs) {lo hi : Nat} (hlh : lo ≤ hi) (hhn : hi ≤ n) :
  OwnRow w e sz (.slice (if cap = lo then A else A.map (·.add (lo * sz))) (hi - lo) (cap - lo)) (hi - lo) ((xs.drop (lo * sz)).take ((hi - lo) * sz)) := by
 have hx := h.1
 have hm : hi * sz ≤ n * sz := Nat.mul_le_mul_right _ hhn
 have hd : (hi - lo) * sz = hi * sz - lo * sz := Nat.sub_mul ..
 have hlo : lo * sz ≤ hi * sz := Nat.mul_le_mul_right _ hlh
 refine ⟨by simp; omega, ?_⟩
 rcases h.2 with ⟨e1, e2⟩ | ⟨g, o, cap', cur, e1, hg, hnc, hcm, hcs, htk⟩
 ·injection e1 with e1 e3 e4
  subst e1 e2 e4
  left
  have : lo = 0 := by omega
  have : hi = 0 := by omega
  subst_vars
  simp
 ·injection e1 with e1 e3 e4
  subst e1 e4
  right
  by_cases hc : cap = lo
  ·rw [if_pos hc]
   refine ⟨g, o, cap - lo, cur, rfl, hg, by omega, by omega, ?_, ?_⟩
   ·have : cap - lo = 0 := by omega
    rw [this]; omega
   ·have : hi - lo = 0 := by omega
    rw [this]; simp
  ·rw [if_neg hc]
   have hcl : (cap - lo) * sz = cap * sz - lo * sz := Nat.sub_mul ..
   have hlc : lo * sz ≤ cap * sz := Nat.mul_le_mul_right _ (by omega)
   refine ⟨g, o + lo * sz, cap - lo, cur, by rw [Option.map_some, Addr.add_lit], hg, by omega, by omega, by omega, ?_⟩
   rw [← htk, List.drop_take, List.drop_drop, List.take_take, Nat.min_eq_left (by omega)]
theorem cutX_ok {T : Tab} (hT : TabOk P T) {o : Oper} {t : TypeId} {x : Operand} {lo hi : Option Operand} (ho : o.op = .slice t x lo hi none) {lv : Int} {hv : Option Int} {F : Fr} {H : Hp} {G : List SB} {K : SV → Hp → List SB → Prop} {Kp : List PanicEntry → Hp → List SB → Prop} {sx : SV}
  (hx : ∀ ρ (a : Act), FOk ρ F a.tmps → sx.Is ρ (a.eval x)) (hlo : ∀ ρ (a : Act), FOk ρ F a.tmps → loIs lo a lv)
  (hhi : ∀ ρ (a : Act), FOk ρ F a.tmps → hiIs hi a hv)
  (h : cutX T t sx lv hv G fun sv G' => K sv H G') : LO P o F H G K Kp := by
 obtain ⟨ti, ht, h1⟩ := tabX_ok hT h
 clear h
 cases hk : ti.k with
 | slice e =>
  simp only [hk] at h1
  obtain ⟨ei, he, h2⟩ := tabX_ok hT h1
  clear h1
  split at h2
  ·rename_i k
   obtain ⟨sb, hsb, h3⟩ := getG_ok h2
   clear h2
   split at h3
   ·rename_i e' sz n xs
    obtain ⟨hsz, h4⟩ := natEq_ok h3
    clear h3
    subst hsz
    intro w0 M hgd H0 ρ a w hs hf
    have hρ : ρ[k]? = some (a.eval x) := hx ρ a hf
    have hrow := hs.ok k _ _ hsb hρ
    have hsl : ∃ A cap, a.eval x = .slice A n cap ∧ n ≤ cap := by
     rcases hrow.2 with ⟨e1, e2⟩ | ⟨g, oo, cap, cur, e1, _, hnc, _⟩
     ·exact ⟨none, 0, by rw [e1, e2], by omega⟩
     ·exact ⟨_, cap, e1, hnc⟩
    obtain ⟨A, cap, e1, hnc⟩ := hsl
    have fin : ∀ (l h : Nat), l ≤ h → h ≤ n → (execOp a.eval o).run P w = .ok (.value (.slice (if cap = l then A else A.map (·.add (l * ei.size))) (h - l) (cap - l))) w →
      K (.si (.ce (.self (G.set k .dead).length))) H (G.set k .dead ++ [.row e' ei.size (h - l) ((xs.drop (l * ei.size)).take ((h - l) * ei.size))]) →
      Out P (fun v w' => ∃ sv ρ' H' G', St w0 M H0 ρ' H' G' w' ∧ Pre ρ ρ' ∧ sv.Is ρ' v ∧ H.Le H' ∧ K sv H' G') (fun ch w' => ∃ ρ' H' G', St w0 M H0 ρ' H' G' w' ∧ Pre ρ ρ' ∧ H.Le H' ∧ Kp ch H' G') ((execOp a.eval o).run P w) := by
     intro l h hlh hhn hrun hK
     rw [hrun]
     rw [e1] at hrow hρ
     have hr' := hrow.cut hlh hhn
     refine ⟨_, ρ ++ [_], H, _, (hs.kill k).adopt (s := .row e' ei.size (h - l) ((xs.drop (l * ei.size)).take ((h - l) * ei.size))) hr' (fun g hg => ?_), Pre.append _ _, ?_, .refl _, hK⟩
     ·have hb : SB.blk (.slice A n cap) (.row e' ei.size n xs) = some g := by
       cases A with
       | none => split at hg <;> simp [SB.blk, Value.ownBlock] at hg
       | some aa =>
        split at hg
        ·exact hg
        ·simp only [SB.blk, Value.ownBlock, Option.map_some] at hg
         rw [show (aa.add (l * ei.size)).block = aa.block by unfold Addr.add; split <;> rfl] at hg
         exact hg
      have hg' : blkAt ρ G k = some g := by rw [blkAt_eq hsb hρ]; exact hb
      exact ⟨(hs.own k g hg').1, (hs.own k g hg').2, fun j hj => (blkAt_dead hj).1 (hs.inj j k g (blkAt_dead hj).2 hg')⟩
     ·show (ρ ++ [_])[(G.set k .dead).length]? = some _
      rw [List.getElem?_append_right (by simp [hs.len])]
      simp [hs.len]
    have hlo' := hlo ρ a hf
    have hhi' := hhi ρ a hf
    have hsa : (execOp a.eval o).run P w = ((Instr.sliceAt t (.slice A n cap) (lo.map a.eval) (hi.map a.eval) none).run P w).andThen fun v w' => .ok (.value v) w' := by
     simp [execOp, ho, e1]
    cases hv with
    | none =>
     obtain ⟨⟨h5, h6⟩, h7⟩ := h4
     obtain ⟨_, h8⟩ := setG_ok h7
     have h9 := appG_ok h8
     have hxl : xs.length = n * ei.size := hrow.1
     refine fin lv.toNat n (by omega) (Nat.le_refl _) ?_ ?_
     ·rw [hsa]
      cases hi with
      | some u => exact hhi'.elim
      | none =>
       cases lo with
       | none =>
        simp only [loIs] at hlo'
        subst hlo'
        simp [Instr.sliceAt, Instr.slice, Instr.sliceBounds, run_underlying (ht.slice hk), he.sizeOf w]
       | some l =>
        obtain ⟨kk, e2⟩ := hlo'
        simp [Instr.sliceAt, Instr.slice, Instr.sliceBounds, run_underlying (ht.slice hk), he.sizeOf w, e2, run_bound (P := P) ⟨h5, h6⟩]
     ·have ht2 : (xs.drop (lv.toNat * ei.size)).take ((n - lv.toNat) * ei.size) = xs.drop (lv.toNat * ei.size) := by
       apply List.take_of_length_le
       rw [List.length_drop, hxl, Nat.sub_mul]; exact Nat.le_refl _
      rw [ht2]; exact h9
    | some hh =>
     obtain ⟨⟨h5, h6, h6'⟩, h7⟩ := h4
     obtain ⟨_, h8⟩ := setG_ok h7
     have h9 := appG_ok h8
     refine fin lv.toNat hh.toNat (by omega) (by omega) ?_ h9
     rw [hsa]
     cases hi with
     | none => exact hhi'.elim
     | some u =>
      obtain ⟨ku, e3⟩ := hhi'
      have hb : (0 : Int) ≤ hh ∧ hh ≤ ((cap : Nat) : Int) := ⟨by omega, by omega⟩
      have hb2 : (0 : Int) ≤ lv ∧ lv ≤ ((hh.toNat : Nat) : Int) := ⟨h5, by omega⟩
      cases lo with
      | none =>
       simp only [loIs] at hlo'
       subst hlo'
       simp [Instr.sliceAt, Instr.slice, Instr.sliceBounds, run_underlying (ht.slice hk), he.sizeOf w, e3, run_bound (P := P) hb]
      | some l =>
       obtain ⟨kk, e2⟩ := hlo'
       simp [Instr.sliceAt, Instr.slice, Instr.sliceBounds, run_underlying (ht.slice hk), he.sizeOf w, e2, e3, run_bound (P := P) hb, run_bound (P := P) hb2]
   ·exact h3.elim
  ·exact h2.elim
 | _ => simp only [hk] at h1
def cut3X (T : Tab) (t : TypeId) (sx : SV) (l h m : Int) (K : SV → Prop) : Prop :=
 tabX T t fun ti => match ti.k with
  | .slice e => tabX T e fun ei => match sx with
   | .si (.ce (.val (.slice A _ c))) => (0 ≤ l ∧ l ≤ h ∧ h ≤ m ∧ m ≤ (c : Int)) ∧ K (pv (.slice (subA A m.toNat l.toNat ei.size) (h.toNat - l.toNat) (m.toNat - l.toNat)))
   | _ => False
  | _ => False
theorem cut3X_ok {T : Tab} (hT : TabOk P T) {o : Oper} {t : TypeId} {x u v : Operand} {lo : Option Operand} (ho : o.op = .slice t x lo (some u) (some v)) {l h m : Int} {F : Fr} {H : Hp} {G : List SB} {K : SV → Prop} {sx : SV}
  (hx : ∀ ρ (a : Act), FOk ρ F a.tmps → sx.Is ρ (a.eval x)) (hlo : ∀ ρ (a : Act), FOk ρ F a.tmps → loIs lo a l)
  (hu : ∀ ρ (a : Act), FOk ρ F a.tmps → ∃ k, a.eval u = .int k h) (hv : ∀ ρ (a : Act), FOk ρ F a.tmps → ∃ k, a.eval v = .int k m) (h0 : cut3X T t sx l h m K) : QO P o F H G K := by
 obtain ⟨ti, ht, h1⟩ := tabX_ok hT h0
 clear h0
 cases hk : ti.k with
 | slice e =>
  simp only [hk] at h1
  obtain ⟨ei, he, h2⟩ := tabX_ok hT h1
  clear h1
  split at h2
  ·rename_i A n c
   obtain ⟨⟨b1, b2, b3, b4⟩, hK⟩ := h2
   refine ⟨_, hK, fun ρ a wc hf hw => ⟨_, pv_is _ _, fun w hw' => ?_⟩⟩
   have e1 : a.eval x = .slice A n c := hx ρ a hf
   obtain ⟨ku, e2⟩ := hu ρ a hf
   obtain ⟨kv, e3⟩ := hv ρ a hf
   have hlo' := hlo ρ a hf
   have q1 : (0 : Int) ≤ m ∧ m ≤ ((c : Nat) : Int) := ⟨by omega, b4⟩
   have q2 : (0 : Int) ≤ h ∧ h ≤ ((m.toNat : Nat) : Int) := ⟨by omega, by omega⟩
   have q3 : (0 : Int) ≤ l ∧ l ≤ ((h.toNat : Nat) : Int) := ⟨by omega, by omega⟩
   cases lo with
   | none =>
    simp only [loIs] at hlo'
    subst hlo'
    simp [execOp, ho, e1, e2, e3, Instr.sliceAt, Instr.slice, Instr.sliceBounds, run_underlying (ht.slice hk), he.sizeOf w, run_bound (P := P) q1, run_bound (P := P) q2, subA]
   | some lu =>
    obtain ⟨kk, e4⟩ := hlo'
    simp [execOp, ho, e1, e2, e3, e4, Instr.sliceAt, Instr.slice, Instr.sliceBounds, run_underlying (ht.slice hk), he.sizeOf w, run_bound (P := P) q1, run_bound (P := P) q2, run_bound (P := P) q3, subA]
  ·exact h2.elim
 | _ => simp only [hk] at h1
theorem boundX_ok {lo : Option Operand} {F : Fr} {K : Int → Prop} (h : boundX lo F 0 K) : ∃ l, K l ∧ ∀ ρ (a : Act), FOk ρ F a.tmps → loIs lo a l := by
 cases lo with
 | none => exact ⟨0, h, fun _ _ _ => rfl⟩
 | some u =>
  obtain ⟨su, h, hu⟩ := evX_ok h
  obtain ⟨k, n, rfl, h⟩ := intX_ok h
  exact ⟨n, h, fun ρ a hf => ⟨k, hu ρ a hf⟩⟩
def rowOf (sx : SV) (G : List SB) (K : Bool → Prop) : Prop :=
 match sx with
 | .si (.ce (.self k)) => getG G k fun s => match s with
  | .row .. => K true
  | _ => K false
 | _ => K false
theorem rowOf_ok {sx : SV} {G : List SB} {K : Bool → Prop} (h : rowOf sx G K) : ∃ b, K b := by
 unfold rowOf at h
 split at h
 ·obtain ⟨s, _, h⟩ := getG_ok h
  split at h <;> exact ⟨_, h⟩
 ·exact ⟨_, h⟩
def pcX (T : Tab) (t : TypeId) (k sz lo0 m : Nat) (lo : Int) (hi : Option Int) (G : List SB) (K : SV → Prop) : Prop :=
 natEq lo0 0 (tabX T t fun ti => match ti.k with
  | .slice e => tabX T e fun ei => natEq sz ei.size (getG G k fun s => match s with
   | .row _ _ _ _ => match hi with
    | none => (0 ≤ lo ∧ lo ≤ (m : Int)) ∧ K (.si (.ce (.cut k sz lo.toNat (m - lo.toNat))))
    | some h => (0 ≤ lo ∧ lo ≤ h ∧ h ≤ (m : Int)) ∧ K (.si (.ce (.cut k sz lo.toNat (h.toNat - lo.toNat))))
   | _ => False)
  | _ => False)
theorem pcX_ok {T : Tab} (hT : TabOk P T) {o : Oper} {t : TypeId} {x : Operand} {lo hi : Option Operand} (ho : o.op = .slice t x lo hi none) {k sz lo0 m : Nat} {lv : Int} {hv : Option Int} {F : Fr} {H : Hp} {G : List SB} {K : SV → Prop}
  (hx : ∀ ρ (a : Act), FOk ρ F a.tmps → SV.Is ρ (.si (.ce (.cut k sz lo0 m))) (a.eval x)) (hlo : ∀ ρ (a : Act), FOk ρ F a.tmps → loIs lo a lv)
  (hhi : ∀ ρ (a : Act), FOk ρ F a.tmps → hiIs hi a hv)
  (h : pcX T t k sz lo0 m lv hv G K) : QO P o F H G K := by
 obtain ⟨rfl, h1⟩ := natEq_ok h
 obtain ⟨ti, ht, h2⟩ := tabX_ok hT h1
 clear h h1
 cases hk : ti.k with
 | slice e =>
  simp only [hk] at h2
  obtain ⟨ei, he, h3⟩ := tabX_ok hT h2
  obtain ⟨rfl, h4⟩ := natEq_ok h3
  obtain ⟨s, hs, h5⟩ := getG_ok h4
  clear h2 h3 h4
  split at h5
  ·rename_i e' sz' n xs
   have open' : ∀ (ρ : List Value) (a : Act) (wc : World), FOk ρ F a.tmps → Sw ρ H G wc → ∃ A cap n, ρ[k]? = some (.slice A n cap) ∧ m ≤ n ∧ n ≤ cap ∧ a.eval x = .slice A m cap ∧ (A = none ∨ ∃ g oo, A = some ⟨g, oo, none⟩) := by
    intro ρ a wc hf hw
    obtain ⟨r, hr, hc⟩ := hx ρ a hf
    obtain ⟨A, n2, cap, rfl, hm, he2⟩ := cutV_slice hc
    rw [Nat.zero_add] at hm
    rcases (hw.ok k _ _ hs hr).2 with ⟨e1, e2⟩ | ⟨g, oo, cap', cur, e1, _, hnc, _⟩
    ·injection e1 with e1 e3 e4
     subst e1 e3 e4
     refine ⟨none, 0, 0, hr, hm, Nat.le_refl _, ?_, .inl rfl⟩
     rw [he2]; simp
    ·injection e1 with e1 e3 e4
     subst e1 e3 e4
     refine ⟨_, cap, n2, hr, hm, hnc, ?_, .inr ⟨g, oo, rfl⟩⟩
     rw [he2, Nat.zero_mul, Nat.sub_zero]
     split
     ·rfl
     ·rw [Option.map_some, Addr.add_lit, Nat.add_zero]
   have hsa : ∀ (a : Act) (A : Option Addr) (cap : Nat), a.eval x = .slice A m cap → ∀ w, (execOp a.eval o).run P w = ((Instr.sliceAt t (.slice A m cap) (lo.map a.eval) (hi.map a.eval) none).run P w).andThen fun v w' => .ok (.value v) w' := by
    intro a A cap e1 w
    simp [execOp, ho, e1]
   cases hv with
   | none =>
    obtain ⟨⟨h6, h7⟩, h8⟩ := h5
    refine ⟨_, h8, fun ρ a wc hf hw => ?_⟩
    obtain ⟨A, cap, n2, hr, hm, hnc, e1, _⟩ := open' ρ a wc hf hw
    refine ⟨.slice (if cap = lv.toNat then A else A.map (·.add (lv.toNat * ei.size))) (m - lv.toNat) (cap - lv.toNat), ⟨_, hr, ?_⟩, fun w _ => ?_⟩
    ·exact if_pos (by omega)
    ·rw [hsa a A cap e1]
     have hlo' := hlo ρ a hf
     have hhi' := hhi ρ a hf
     cases hi with
     | some u => exact hhi'.elim
     | none =>
      cases lo with
      | none =>
       simp only [loIs] at hlo'
       subst hlo'
       simp [Instr.sliceAt, Instr.slice, Instr.sliceBounds, run_underlying (ht.slice hk), he.sizeOf w, Result.andThen]
      | some l =>
       obtain ⟨kk, e2⟩ := hlo'
       simp [Instr.sliceAt, Instr.slice, Instr.sliceBounds, run_underlying (ht.slice hk), he.sizeOf w, e2, run_bound (P := P) ⟨h6, h7⟩, Result.andThen]
   | some hh =>
    obtain ⟨⟨h6, h7, h7'⟩, h8⟩ := h5
    refine ⟨_, h8, fun ρ a wc hf hw => ?_⟩
    obtain ⟨A, cap, n2, hr, hm, hnc, e1, _⟩ := open' ρ a wc hf hw
    refine ⟨.slice (if cap = lv.toNat then A else A.map (·.add (lv.toNat * ei.size))) (hh.toNat - lv.toNat) (cap - lv.toNat), ⟨_, hr, ?_⟩, fun w _ => ?_⟩
    ·exact if_pos (by omega)
    ·rw [hsa a A cap e1]
     have hlo' := hlo ρ a hf
     have hhi' := hhi ρ a hf
     have hb : (0 : Int) ≤ hh ∧ hh ≤ ((cap : Nat) : Int) := ⟨by omega, by omega⟩
     have hb2 : (0 : Int) ≤ lv ∧ lv ≤ ((hh.toNat : Nat) : Int) := ⟨h6, by omega⟩
     cases hi with
     | none => exact hhi'.elim
     | some u =>
      obtain ⟨ku, e3⟩ := hhi'
      cases lo with
      | none =>
       simp only [loIs] at hlo'
       subst hlo'
       simp [Instr.sliceAt, Instr.slice, Instr.sliceBounds, run_underlying (ht.slice hk), he.sizeOf w, e3, run_bound (P := P) hb, Result.andThen]
      | some l =>
       obtain ⟨kk, e2⟩ := hlo'
       simp [Instr.sliceAt, Instr.slice, Instr.sliceBounds, run_underlying (ht.slice hk), he.sizeOf w, e2, e3, run_bound (P := P) hb, run_bound (P := P) hb2, Result.andThen]
  ·exact h5.elim
 | _ => simp only [hk] at h2
def pieceX (sx : SV) (A : Nat → Nat → Nat → Nat → Prop) (B : Prop) : Prop :=
 match sx with
 | .si (.ce (.cut k sz lo m)) => A k sz lo m
 | _ => B
theorem pieceX_ok {sx : SV} {A : Nat → Nat → Nat → Nat → Prop} {B : Prop} (h : pieceX sx A B) : (∃ k sz lo m, sx = .si (.ce (.cut k sz lo m)) ∧ A k sz lo m) ∨ B := by
 unfold pieceX at h
 split at h
 ·exact .inl ⟨_, _, _, _, rfl, h⟩
 ·exact .inr h
def sliceOpX (P : Program) (T : Tab) (o : Oper) (t : TypeId) (x : Operand) (lo hi mx : Option Operand) (F : Fr) (H : Hp) (G : List SB) (K : SV → Hp → List SB → Prop) : Prop :=
 match mx with
 | none => evX x F fun sx => pieceX sx (fun k sz lo0 m => boundX lo F 0 fun l => match hi with
   | none => pcX T t k sz lo0 m l none G fun sv => K sv H G
   | some u => evX u F fun su => intX su fun _ h => pcX T t k sz lo0 m l (some h) G fun sv => K sv H G) <| rowOf sx G fun b => match b with
  | true => boundX lo F 0 fun l => match hi with
   | none => cutX T t sx l none G fun sv G' => K sv H G'
   | some u => evX u F fun su => intX su fun _ h => cutX T t sx l (some h) G fun sv G' => K sv H G'
  | false => opQ P T o F H G fun sv => K sv H G
 | some v => match hi with
  | some u => evX x F fun sx => boundX lo F 0 fun l => evX u F fun su => intX su fun _ h => evX v F fun sv => intX sv fun _ m => cut3X T t sx l h m fun sv => K sv H G
  | none => False
theorem sliceOpX_ok {T : Tab} (hT : TabOk P T) {o : Oper} {t : TypeId} {x : Operand} {lo hi mx : Option Operand} (ho : o.op = .slice t x lo hi mx) {F : Fr} {H : Hp} {G : List SB} {K : SV → Hp → List SB → Prop} {Kp : List PanicEntry → Hp → List SB → Prop} (h : sliceOpX P T o t x lo hi mx F H G K) : LO P o F H G K Kp := by
 cases mx with
 | none =>
  obtain ⟨sx, h1, hx⟩ := evX_ok h
  clear h
  rcases pieceX_ok h1 with ⟨k, sz, lo0, m, rfl, h2⟩ | h1
  ·obtain ⟨l, h3, hl⟩ := boundX_ok h2
   clear h2 h1
   cases hi with
   | none => exact LO.of_quiet (pcX_ok hT ho hx hl (hv := none) (fun _ _ _ => trivial) h3)
   | some u =>
    obtain ⟨su, h4, hu⟩ := evX_ok h3
    obtain ⟨ku, n, rfl, h5⟩ := intX_ok h4
    exact LO.of_quiet (pcX_ok hT ho hx hl (hv := some n) (fun ρ a hf => ⟨ku, hu ρ a hf⟩) h5)
  obtain ⟨b, h2⟩ := rowOf_ok h1
  clear h1
  cases b with
  | false => exact LO.of_quiet (opQ_ok hT h2)
  | true =>
   obtain ⟨l, h3, hl⟩ := boundX_ok h2
   clear h2
   cases hi with
   | none => exact cutX_ok hT ho hx hl (hv := none) (fun _ _ _ => trivial) h3
   | some u =>
    obtain ⟨su, h4, hu⟩ := evX_ok h3
    obtain ⟨k, n, rfl, h5⟩ := intX_ok h4
    exact cutX_ok hT ho hx hl (hv := some n) (fun ρ a hf => ⟨k, hu ρ a hf⟩) h5
 | some v =>
  cases hi with
  | none => exact h.elim
  | some u =>
   obtain ⟨sx, h1, hx⟩ := evX_ok h
   obtain ⟨l, h2, hl⟩ := boundX_ok h1
   obtain ⟨su, h3, hu⟩ := evX_ok h2
   obtain ⟨ku, hh, rfl, h4⟩ := intX_ok h3
   obtain ⟨sv, h5, hv⟩ := evX_ok h4
   obtain ⟨kv, mm, rfl, h6⟩ := intX_ok h5
   exact LO.of_quiet (cut3X_ok hT ho hx hl (fun ρ a hf => ⟨ku, hu ρ a hf⟩) (fun ρ a hf => ⟨kv, hv ρ a hf⟩) h6)
inductive CvK
 | s2b | b2s | s2s | other
def cvX (T : Tab) (s d : TypeId) (K : CvK → Prop) : Prop :=
 tabX T s fun si => tabX T d fun di => match si.k with
  | .string => match di.k with
   | .slice e => tabX T e fun ei => match ei.k with
    | .int .u8 => K .s2b
    | _ => K .other
   | _ => K .other
  | .slice e => match di.k with
   | .string => tabX T e fun ei => match ei.k with
    | .int .u8 => K .b2s
    | _ => K .other
   | .slice _ => K .s2s
   | _ => K .other
  | _ => K .other
theorem cvX_ok {T : Tab} (hT : TabOk P T) {s d : TypeId} {K : CvK → Prop} (h : cvX T s d K) : ∃ c, K c ∧ match c with
  | .s2b => ∃ e, P.underlying s = some .string ∧ P.underlying d = some (.slice e) ∧ P.underlying e = some (.int .u8)
  | .b2s => ∃ e, P.underlying s = some (.slice e) ∧ P.underlying d = some .string ∧ P.underlying e = some (.int .u8)
  | .s2s => True
  | .other => True := by
 obtain ⟨si, hs, h1⟩ := tabX_ok hT h
 clear h
 obtain ⟨di, hd, h2⟩ := tabX_ok hT h1
 clear h1
 split at h2
 ·rename_i hk1
  split at h2
  ·rename_i e hk2
   obtain ⟨ei, he, h3⟩ := tabX_ok hT h2
   clear h2
   split at h3
   ·rename_i hk3; exact ⟨_, h3, e, hs.string hk1, hd.slice hk2, he.int hk3⟩
   ·exact ⟨_, h3, trivial⟩
  ·exact ⟨_, h2, trivial⟩
 ·rename_i e hk1
  split at h2
  ·rename_i hk2
   obtain ⟨ei, he, h3⟩ := tabX_ok hT h2
   clear h2
   split at h3
   ·rename_i hk3; exact ⟨_, h3, e, hs.slice hk1, hd.string hk2, he.int hk3⟩
   ·exact ⟨_, h3, trivial⟩
  ·exact ⟨_, h2, trivial⟩
  ·exact ⟨_, h2, trivial⟩
 ·exact ⟨_, h2, trivial⟩
def veilX (sx : SV) (a b : Prop) : Prop :=
 match sx with
 | .si (.ce (.self _)) => a
 | _ => b
theorem veilX_ok {sx : SV} {a b : Prop} (h : veilX sx a b) : a ∨ b := by
 unfold veilX at h
 split at h
 ·exact .inl h
 ·exact .inr h
def convOpX (P : Program) (T : Tab) (o : Oper) (s d : TypeId) (x : Operand) (F : Fr) (H : Hp) (G : List SB) (K : SV → Hp → List SB → Prop) (L : Prop) : Prop :=
 cvX T s d fun c => match c with
  | .s2b => evX x F fun sx => veilX sx L (strX sx fun str => s2bX str H fun sv H' => K sv H' G)
  | .b2s => evX x F fun sx => b2sX sx H G fun sv => K sv H G
  | .s2s => L
  | .other => opQ P T o F H G fun sv => K sv H G
theorem convOpX_ok {T : Tab} (hT : TabOk P T) {o : Oper} {s d : TypeId} {x : Operand} (ho : o.op = .convert s d x) {F : Fr} {H : Hp} {G : List SB} {K : SV → Hp → List SB → Prop} {Kp : List PanicEntry → Hp → List SB → Prop} (h : convOpX P T o s d x F H G K (LO P o F H G K Kp)) : LO P o F H G K Kp := by
 obtain ⟨c, h1, h2⟩ := cvX_ok hT h
 cases c with
 | s2b =>
  obtain ⟨e, a1, a2, a3⟩ := h2
  obtain ⟨sx, h3, hx⟩ := evX_ok h1
  rcases veilX_ok h3 with h4 | h4
  ·exact h4
  ·exact s2bX_ok ho a1 a2 a3 hx h4
 | b2s => obtain ⟨e, a1, a2, a3⟩ := h2; exact LO.of_quiet (b2sX_ok ho a1 a2 a3 h1)
 | s2s => exact h1
 | other => exact LO.of_quiet (opQ_ok hT h1)
def convQ (P : Program) (T : Tab) (o : Oper) (s d : TypeId) (x : Operand) (F : Fr) (H : Hp) (G : List SB) (K : SV → Prop) : Prop :=
 cvX T s d fun c => match c with
  | .s2b => False
  | .b2s => evX x F fun sx => b2sX sx H G K
  | .s2s => QO P o F H G K
  | .other => opQ P T o F H G K
theorem convQ_ok {T : Tab} (hT : TabOk P T) {o : Oper} {s d : TypeId} {x : Operand} (ho : o.op = .convert s d x) {F : Fr} {H : Hp} {G : List SB} {K : SV → Prop} (h : convQ P T o s d x F H G K) : QO P o F H G K := by
 obtain ⟨c, h1, h2⟩ := cvX_ok hT h
 cases c with
 | s2b => exact h1.elim
 | b2s => obtain ⟨e, a1, a2, a3⟩ := h2; exact b2sX_ok ho a1 a2 a3 h1
 | s2s => exact h1
 | other => exact opQ_ok hT h1
end
end Go.Kx
namespace Go.Kx
open Go.RowKit

section
variable {P : Program}
def panX (sx : SV) (Kp : List PanicEntry → Prop) : Prop :=
 match sx with
 | .si (.ce (.val (.iface t v))) => Kp [{ v := .iface t v, recovered := false }]
 | _ => False
theorem panX_ok {o : Oper} {x : Operand} (ho : o.op = .panic x) {F : Fr} {H : Hp} {G : List SB} {K : SV → Hp → List SB → Prop} {Kp : List PanicEntry → Hp → List SB → Prop}
  (h : evX x F fun sx => panX sx fun ch => Kp ch H G) : LO P o F H G K Kp := by
 obtain ⟨sx, h, hx⟩ := evX_ok h
 unfold panX at h
 split at h
 ·rename_i t v
  intro w0 M hgd H0 ρ a w hs hf
  have e : a.eval x = .iface t v := hx ρ a hf
  have hrun : (execOp a.eval o).run P w = .halt (.panic (.iface t v)) w := by
   simp only [execOp, ho, e]
   simp [Instr.panic, goPanic]
  rw [hrun]
  exact ⟨ρ, H, G, hs, .refl _, .refl _, h⟩
 ·exact h.elim
def ifcX (sx : SV) (K1 : TypeId → Value → Prop) (K0 : Prop) : Prop :=
 match sx with
 | .si (.ce (.val (.iface u v))) => K1 u v
 | .si (.ce (.val .nilIface)) => K0
 | _ => False
theorem ifcX_ok {sx : SV} {K1 : TypeId → Value → Prop} {K0 : Prop} (h : ifcX sx K1 K0) : (∃ u v, sx = .si (.ce (.val (.iface u v))) ∧ K1 u v) ∨ (sx = .si (.ce (.val .nilIface)) ∧ K0) := by
 unfold ifcX at h
 split at h <;> first | exact .inl ⟨_, _, rfl, h⟩ | exact .inr ⟨rfl, h⟩ | exact h.elim
def taX (T : Tab) (t : TypeId) (ok : Bool) (sx : SV) (K : SV → Prop) : Prop :=
 tabX T t fun ti => notIfc ti.k <| ifcX sx (fun u v => match Nat.beq u t with
   | true => constX v fun sv => lookX.fin ok sv true K
   | false => match ok with
    | true => zeroX ti fun sv => lookX.fin true sv false K
    | false => False)
  (match ok with
   | true => zeroX ti fun sv => lookX.fin true sv false K
   | false => False)
theorem run_ta_yes {t xt : TypeId} {d : TypeDesc} (hd : P.underlying t = some d) (hn : ∀ m, d ≠ .interface m) (v : Value) (ok : Bool) (w : World) : (Instr.typeAssert (.iface t v) xt t ok).run P w = .ok (if ok then .tuple #[v, .bool true] else v) w := by
 unfold Instr.typeAssert
 cases d <;> first | exact absurd rfl (hn _) | (simp [run_underlying hd])
theorem run_ta_no {t u xt : TypeId} (hu : u ≠ t) {d : TypeDesc} (hd : P.underlying t = some d) (hn : ∀ m, d ≠ .interface m) (v z : Value) (hz : ∀ w, (zeroValue t).run P w = .ok z w) (w : World) : (Instr.typeAssert (.iface u v) xt t true).run P w = .ok (.tuple #[z, .bool false]) w := by
 unfold Instr.typeAssert
 cases d <;> first | exact absurd rfl (hn _) | (simp [run_underlying hd, hu, hz])
theorem run_ta_nil {t xt : TypeId} {d : TypeDesc} (hd : P.underlying t = some d) (hn : ∀ m, d ≠ .interface m) (z : Value) (hz : ∀ w, (zeroValue t).run P w = .ok z w) (w : World) : (Instr.typeAssert .nilIface xt t true).run P w = .ok (.tuple #[z, .bool false]) w := by
 unfold Instr.typeAssert
 cases d <;> first | exact absurd rfl (hn _) | (simp [run_underlying hd, hz])
theorem taX_ok {T : Tab} (hT : TabOk P T) {o : Oper} {x : Operand} {xt t : TypeId} {ok : Bool} (ho : o.op = .typeAssert x xt t ok) {F : Fr} {H : Hp} {G : List SB} {K : SV → Prop}
  (h : evX x F fun sx => taX T t ok sx K) : QO P o F H G K := by
 obtain ⟨sx, h, hx⟩ := evX_ok h
 obtain ⟨ti, ht, h⟩ := tabX_ok hT h
 obtain ⟨hk, h⟩ := notIfc_ok h
 obtain ⟨d, hd, hn⟩ := ht.notIface hk
 have hex : ∀ (a : Act) (w : World), (execOp a.eval o).run P w = ((Instr.typeAssert (a.eval x) xt t ok).run P w).andThen fun v w => .ok (.value v) w := fun a w => by
  simp [execOp, ho]
 rcases ifcX_ok h with ⟨u, v, e0, h2⟩ | ⟨e0, h2⟩ <;> clear h <;> subst e0
 ·cases hu : Nat.beq u t with
  | true =>
   rw [hu] at h2
   have hu := Nat.eq_of_beq_eq_true hu
   subst hu
   obtain ⟨sv, h, hsv⟩ := constX_ok h2
   obtain ⟨s, h, hs⟩ := lookX_fin h
   refine ⟨s, h, fun ρ a wc hf hw => ⟨_, hs ρ _ (hsv ρ), fun w hw' => ?_⟩⟩
   have e : a.eval x = .iface u v := hx ρ a hf
   rw [hex, e, run_ta_yes hd hn]; rfl
  | false =>
   rw [hu] at h2
   have hu : u ≠ t := fun e => by rw [e, Nat.beq_refl] at hu; cases hu
   cases ok with
   | true =>
    obtain ⟨sv, z, h, hsv, hz⟩ := zeroX_ok ht h2
    obtain ⟨s, h, hs⟩ := lookX_fin h
    refine ⟨s, h, fun ρ a wc hf hw => ⟨_, hs ρ _ (hsv ρ), fun w hw' => ?_⟩⟩
    have e : a.eval x = .iface u v := hx ρ a hf
    rw [hex, e, run_ta_no hu hd hn v z hz]; rfl
   | false => exact h2.elim
 ·cases ok with
  | true =>
   obtain ⟨sv, z, h, hsv, hz⟩ := zeroX_ok ht h2
   obtain ⟨s, h, hs⟩ := lookX_fin h
   refine ⟨s, h, fun ρ a wc hf hw => ⟨_, hs ρ _ (hsv ρ), fun w hw' => ?_⟩⟩
   have e : a.eval x = .nilIface := hx ρ a hf
   rw [hex, e, run_ta_nil hd hn z hz]; rfl
  | false => exact h2.elim
end
end Go.Kx
namespace Go.Kx
open Go.RowKit

section
variable {P : Program}
theorem liesAt_off {e : TypeId} (hc : P.cellsOf e = 1) (count off n : Nat) (hn : off + n ≤ count) : liesAt P P.depth e count off e n = true := by
 have hd : P.depth = (2 * (P.types.size + Made.depth) + 1) + 1 := rfl
 rw [hd]
 simp only [liesAt, Bool.or_eq_true]
 left
 rw [hd]
 simp [rowAt, hc, hn, sameLayout, Nat.mod_one]
theorem run_unsafeString_at (w : World) (pt it ty e : TypeId) (hp : P.underlying pt = some (.pointer e)) (hc : P.cellsOf e = 1) (g o cells : Nat) (hsh : w.shape? g = some (e, cells)) (l : List UInt8) (h0 : l ≠ []) (hn : o + l.length ≤ cells) (h63 : l.length ≤ 9223372036854775807)
  (hcell : ∀ j x, l[j]? = some x → w.cell? ((⟨g, o, none⟩ : Addr).add j) = some (.int .u8 x.toNat)) :
  (Builtin.unsafeString_ #[pt, it] ty #[.pointer (some ⟨g, o, none⟩), .int .i64 l.length]).run P w = .ok (.string ⟨l.toArray⟩) (w.freeze ⟨g, o, none⟩ l.length) := by
 have hl : l.length ≠ 0 := by simpa using h0
 have hlb := Lib.run_loadBytes (P := P) w l ⟨g, o, none⟩ .empty hcell
 have hlies := liesAt_off (P := P) hc (cells / P.cellsOf e) o l.length (by rw [hc]; simpa using hn)
 have h63' : ¬ (9223372036854775807 : Int) < (l.length : Int) := by omega
 have hdef : Builtin.unsafeString_ #[pt, it] ty #[.pointer (some ⟨g, o, none⟩), .int .i64 l.length] =
   (do
    let n ← asInt (.int .i64 l.length)
    if n < 0 then runtimePanic (.error "unsafe.String: len out of range")
    if n > IntKind.i64.max then unsupported (.unsafePointer "String: a length above the largest int")
    if n = 0 then pure (.string .empty)
    else if ← variablesAt ⟨g, o, none⟩ (← elemOf pt) n.toNat then do
     let s ← loadBytes ⟨g, o, none⟩ .empty n.toNat
     freeze ⟨g, o, none⟩ n.toNat
     pure (.string s)
    else unsupported (.unsafePointer "String: not so many bytes at ptr")) := rfl
 rw [hdef]
 have hmax : IntKind.i64.max = 9223372036854775807 := rfl
 have hneg : ¬ (l.length : Int) < 0 := by omega
 simp [asInt, asIntOf, hmax, h63', hneg, hl, variablesAt, hsh, elemOf, run_underlying hp, hlies, hlb]
def sdX (T : Tab) (ty : TypeId) (sx : SV) (G : List SB) (K : SV → Prop) : Prop :=
 tabX T ty fun ti => match ti.k with
  | .ptr _ => match sx with
   | .si (.ce (.val (.slice A _ _))) => match A with
    | none => K (pv (.pointer none))
    | some _ => False
   | .si (.ce (.self k)) => getG G k fun s => match s with
    | .row _ _ n _ => (0 < n → K (.si (.ce (.ptr k 0)))) ∧ (n = 0 → ∀ A, K (.si (.ce (.pp A 0))))
    | _ => False
   | _ => False
  | _ => False
theorem sdX_ok {T : Tab} (hT : TabOk P T) {o : Oper} {ts : Array TypeId} {s : Operand} (ho : o.op = .call ⟨.builtin .unsafeSliceData, #[s], ts⟩) {F : Fr} {H : Hp} {G : List SB} {K : SV → Hp → List SB → Prop} {Kp : List PanicEntry → Hp → List SB → Prop}
  (h : evX s F fun ss => sdX T o.type ss G fun sv => K sv H G) : LO P o F H G K Kp := by
 obtain ⟨ss, hA, hss⟩ := evX_ok h
 clear h
 obtain ⟨ti, ht, h⟩ := tabX_ok hT hA
 clear hA
 have b1 : ∀ (a : Act), (#[s] : Array Operand).map a.eval = #[a.eval s] := fun a => by simp
 have hrun : ∀ (a : Act) (w : World), (execOp a.eval o).run P w = ((Builtin.unsafeSliceData_ ts o.type #[a.eval s]).run P w).andThen fun v w' => .ok (.value v) w' := fun a w => by
  simp only [execOp, ho, resolve, invoke, builtin, b1, Sem.run_bind, Sem.run_pure, Result.andThen_ok]
 split at h
 ·rename_i e htk
  split at h
  ·rename_i A n c
   split at h
   ·intro w0 M hgd H0 ρ a w hs hf
    have e1 : a.eval s = .slice none n c := hss ρ a hf
    rw [hrun, e1, Lib.run_unsafeSliceData_nil]
    exact ⟨pv (.pointer none), ρ, H, G, hs, .refl _, rfl, .refl _, h⟩
   ·exact h.elim
  ·rename_i k
   obtain ⟨sb, hsb, hB⟩ := getG_ok h
   clear h
   split at hB
   ·rename_i et sz n xs
    obtain ⟨h1, h2⟩ := hB
    intro w0 M hgd H0 ρ a w hs hf
    have hρ : ρ[k]? = some (a.eval s) := hss ρ a hf
    have hrow := hs.ok k _ (a.eval s) hsb hρ
    rcases hrow.2 with ⟨e1, e2⟩ | ⟨g, o', cap, cur, e1, hg, hnc, hcm, hcs, _⟩
    ·rw [hrun, e1, Lib.run_unsafeSliceData_nil]
     exact ⟨.si (.ce (.pp none 0)), ρ, H, G, hs, .refl _, rfl, .refl _, h2 e2 none⟩
    ·by_cases hc0 : cap = 0
     ·subst hc0
      have hn0 : n = 0 := by omega
      have hsh : w.shape? g = some (et, cur.size) := by simp [World.shape?, hg]
      rw [hrun, e1, Lib.run_unsafeSliceData_zero w ts o.type e (ht.ptr htk) ⟨g, o', none⟩ n _ hsh]
      have hgr : w.grownBy (w.alloc (.view ⟨g, o', none⟩ e)) none := ⟨rfl, rfl, rfl, by unfold World.alloc; simp, fun j hj _ => by unfold World.alloc; simp [Array.getElem?_push, Nat.ne_of_lt hj]⟩
      exact ⟨.si (.ce (.pp (some ⟨w.heap.size, 0, none⟩) 0)), ρ, H, G, hs.grew hgr (fun g e => by cases e), .refl _, rfl, .refl _, h2 hn0 _⟩
     ·rw [hrun, e1, Lib.run_unsafeSliceData_row _ _ _ _ _ _ hc0]
      by_cases hn0 : n = 0
      ·exact ⟨.si (.ce (.pp (some ⟨g, o', none⟩) 0)), ρ, H, G, hs, .refl _, rfl, .refl _, h2 hn0 _⟩
      ·exact ⟨.si (.ce (.ptr k 0)), ρ, H, G, hs, .refl _, ⟨_, hρ, by rw [e1]; rfl⟩, .refl _, h1 (by omega)⟩
   ·exact hB.elim
  ·exact h.elim
 ·exact h.elim
def ptrC (c : SC) (K : Prop) : Prop :=
 match c with
 | .val (.pointer none) => K
 | .ptr _ _ => K
 | .pp _ _ => K
 | _ => False
theorem ptrC_ok {c : SC} {K : Prop} (h : ptrC c K) : K ∧ ∀ ρ v, c.Is ρ v → ∃ q, v = .pointer q := by
 unfold ptrC at h
 split at h
 ·exact ⟨h, fun ρ v e => ⟨_, e⟩⟩
 ·refine ⟨h, fun ρ v ⟨r, _, e⟩ => ?_⟩
  unfold ptrAt at e
  split at e <;> first | (injection e with e; exact ⟨_, e.symm⟩) | cases e
 ·exact ⟨h, fun ρ v e => ⟨_, e⟩⟩
 ·exact h.elim
def usX (T : Tab) (pt : TypeId) (sp sn : SV) (G : List SB) (K : SV → List SB → Prop) : Prop :=
 tabX T pt fun pi => match pi.k with
  | .ptr e => tabX T e fun ei => natEq ei.size 1 <| plainX sn fun nv => match nv with
   | .int .i64 n => cellX sp fun c => ptrC c <| (n = 0 → K (pv (.string ⟨#[]⟩)) G) ∧ (n ≠ 0 → match c with
    | .ptr k 0 => getG G k fun s => match s with
     | .row e' sz _ xs => natEq e' e <| natEq sz 1 <| ∃ bs : ByteArray, xs = byteCells bs ∧ n = (bs.size : Int) ∧ bs.size ≤ 9223372036854775807 ∧ setG G k .dead fun G' => K (pv (.string bs)) G'
     | _ => False
    | _ => False)
   | _ => False
  | _ => False
theorem usX_ok {T : Tab} (hT : TabOk P T) {o : Oper} {pt it : TypeId} {p n : Operand} (ho : o.op = .call ⟨.builtin .unsafeString, #[p, n], #[pt, it]⟩) {F : Fr} {H : Hp} {G : List SB} {K : SV → Hp → List SB → Prop} {Kp : List PanicEntry → Hp → List SB → Prop}
  (h : evX p F fun sp => evX n F fun sn => usX T pt sp sn G fun sv G' => K sv H G') : LO P o F H G K Kp := by
 obtain ⟨sp, hA, hsp⟩ := evX_ok h
 clear h
 obtain ⟨sn, hB, hsn⟩ := evX_ok hA
 clear hA
 obtain ⟨pi, hpt, h⟩ := tabX_ok hT hB
 clear hB
 have b1 : ∀ (a : Act), (#[p, n] : Array Operand).map a.eval = #[a.eval p, a.eval n] := fun a => by simp
 have hrun : ∀ (a : Act) (w : World), (execOp a.eval o).run P w = ((Builtin.unsafeString_ #[pt, it] o.type #[a.eval p, a.eval n]).run P w).andThen fun v w' => .ok (.value v) w' := fun a w => by
  simp only [execOp, ho, resolve, invoke, builtin, b1, Sem.run_bind, Sem.run_pure, Result.andThen_ok]
 split at h
 ·rename_i e hpk
  obtain ⟨ei, he, hC⟩ := tabX_ok hT h
  clear h
  obtain ⟨hsz, hD⟩ := natEq_ok hC
  clear hC
  obtain ⟨nv, rfl, h⟩ := plainX_ok hD
  clear hD
  split at h
  ·rename_i nn
   obtain ⟨c, rfl, hE⟩ := cellX_ok h
   clear h
   obtain ⟨⟨h1, h2⟩, hpq⟩ := ptrC_ok hE
   clear hE
   intro w0 M hgd H0 ρ a w hs hf
   have e1 : c.Is ρ (a.eval p) := hsp ρ a hf
   have e2 : a.eval n = .int .i64 nn := hsn ρ a hf
   obtain ⟨q, e3⟩ := hpq ρ _ e1
   by_cases hn0 : nn = 0
   ·subst hn0
    rw [hrun, e2, e3, Lib.run_unsafeString_none]
    exact ⟨pv (.string ⟨#[]⟩), ρ, H, G, hs, .refl _, rfl, .refl _, h1 rfl⟩
   ·replace h2 := h2 hn0
    split at h2
    ·rename_i k
     obtain ⟨sb, hsb, h3⟩ := getG_ok h2
     clear h2
     split at h3
     ·rename_i e' sz m xs
      obtain ⟨rfl, h4⟩ := natEq_ok h3
      obtain ⟨rfl, bs, rfl, rfl, hbs, h5⟩ := natEq_ok h4
      obtain ⟨hk, h2⟩ := setG_ok h5
      obtain ⟨r, hr, hp⟩ := e1
      have hrow := hs.ok k _ r hsb hr
      have hlen := hrow.1
      rw [byteCells_length, Nat.mul_one] at hlen
      rcases hrow.2 with ⟨e4, e5⟩ | ⟨g, o', cap, cur, e4, hg, hnc, hcm, hcs, htk⟩
      ·exact absurd (by rw [hlen, e5]; rfl) hn0
      ·subst e4
       rw [e3] at hp
       have hp : (Value.pointer (some ⟨g, o' + 0, none⟩)) = .pointer q := Option.some.inj hp
       injection hp with hp
       subst hp
       rw [Nat.add_zero] at e3
       have hsh : w.shape? g = some (e', cur.size) := by simp [World.shape?, hg]
       have hcell : ∀ j x, bs.data.toList[j]? = some x → w.cell? ((⟨g, o', none⟩ : Addr).add j) = some (.int .u8 x.toNat) := by
        intro j x hx
        have hj : (byteCells bs)[j]? = some (.int .u8 x.toNat) := by simp [byteCells_map, hx]
        rw [← htk, List.getElem?_take] at hj
        split at hj
        ·rw [List.getElem?_drop] at hj
         rw [Addr.add_lit]
         simp only [World.cell?, hg]
         simpa using hj
        ·cases hj
       have hl : bs.data.toList.length = bs.size := by rw [Array.length_toList]; rfl
       have hsz0 : bs.data.toList ≠ [] := fun h0 => hn0 (by rw [← hl, h0]; rfl)
       have hru := run_unsafeString_at (P := P) w pt it o.type e' (hpt.ptr hpk) (by rw [he.cells, hsz]) g o' cur.size hsh bs.data.toList hsz0 (by rw [hl]; omega) (by rw [hl]; exact hbs) hcell
       rw [hl] at hru
       rw [hrun, e2, e3, hru]
       have hfr : ∀ j, j ≠ g → (w.freeze ⟨g, o', none⟩ bs.size).heap[j]? = w.heap[j]? := fun j hj => by
        unfold World.freeze
        split
        ·rfl
        ·simp only [Array.getElem?_modify]; rw [if_neg (by omega)]
       have hfs : (w.freeze ⟨g, o', none⟩ bs.size).heap.size = w.heap.size := by unfold World.freeze; split <;> simp
       have ho3 : (w.freeze ⟨g, o', none⟩ bs.size).os = w.os ∧ (w.freeze ⟨g, o', none⟩ bs.size).tape = w.tape ∧ (w.freeze ⟨g, o', none⟩ bs.size).output = w.output := by unfold World.freeze; split <;> exact ⟨rfl, rfl, rfl⟩
       exact ⟨pv (.string bs), ρ, H, _, hs.turn (g := g) (s' := .dead) hsb hr rfl ho3.1 ho3.2.1 ho3.2.2 (Nat.le_of_eq hfs.symm) (fun j _ hne => hfr j hne) trivial (.inr rfl), .refl _, rfl, .refl _, h2⟩
     ·exact h3.elim
    ·exact h2.elim
  ·exact h.elim
 ·exact h.elim
end
end Go.Kx
