/- 'append' in a symbolic walk: onto a row of one's own, onto nil, onto a literal. Generic in the program; no condition of its own. -/
import Derived.Test.YtfchdibbjaeocaaDoorKM
import Derived.OwnWalk
namespace Go.Kx
open Go.RowKit

section
variable {P : Program}

/-! ### What it leaves -/
structure Apped (w w' : World) (e size : Nat) (n : Nat) (xs : List Value) (v' : Value) (ob : Option Nat) : Prop where
  row : OwnRow w' e size v' n xs
  grown : w.grownBy w' ob
  blk : (v'.ownBlock = none) ∨ v'.ownBlock = ob ∨ v'.ownBlock = some w.heap.size
theorem app_grown {w : World} {e : TypeId} {i : TypeInfo} {z : Value} (hzs : z.cells.size = i.size) {n m old : Nat} {xs news : List Value} (hlen : xs.length = n * i.size) (hl : news.length = m * i.size) (_ho : old < n + m) (h63 : n + m ≤ maxLen) (ob : Option Nat) :
    Apped w (w.drew.alloc (.cells ((xs ++ news).toArray ++ Builtin.zeroCells z.cells (grownCap w (n + m) old e - (n + m))) e)) e i.size (n + m) (xs ++ news) (.slice (some ⟨w.heap.size, 0, none⟩) (n + m) (grownCap w (n + m) old e)) ob := by
  have hge := grownCap_ge w (n + m) old e
  have hcm : grownCap w (n + m) old e ≤ maxLen := grownCap_le_maxLen w (n + m) old e h63
  have hlen' : (xs ++ news).length = (n + m) * i.size := by rw [List.length_append, hlen, hl, Nat.add_mul]
  refine ⟨⟨hlen', .inr ⟨w.heap.size, 0, _, _, rfl, heap_alloc_new w.drew _, hge, hcm, ?_, ?_⟩⟩, ⟨rfl, rfl, rfl, by simp, fun k hk _ => heap_alloc_old w.drew _ k hk⟩, .inr (.inr rfl)⟩
  · simp only [Array.size_append, List.size_toArray, size_zeroCells, hzs, hlen', ← Nat.add_mul, Nat.zero_add]
    exact Nat.le_of_eq (by congr 1; omega)
  · simp only [Array.toList_append, List.drop_zero]
    rw [← hlen']
    exact List.take_left
/-- Onto a row of one's own. -/
theorem app_own {w : World} (t tx ty e : TypeId) (i : TypeInfo) (z : Value) (ht : P.underlying t = some (.slice e)) (hi : P.info? e = some i) (hz : i.zero = some z) (hzs : z.cells.size = i.size)
    (v : Value) (n : Nat) (xs : List Value) (hown : OwnRow w e i.size v n xs) (x : Value) (m : Nat) (news : List Value) (hs : Src P i.size tx x m news w)
    (h63 : n + m ≤ maxLen) (hbytes : (n + m) * i.bytes ≤ 140737488355328) :
    ∃ v' w', (Builtin.append_ #[t, tx] ty #[v, x]).run P w = .ok v' w' ∧ Apped w w' e i.size (n + m) (xs ++ news) v' v.ownBlock := by
  have hsmall : ((n + m : Nat) : Int) ≤ 9223372036854775807 := by simp only [maxLen] at h63; omega
  have hlen : (xs ++ news).length = (n + m) * i.size := by rw [List.length_append, hown.1, hs.newsLen, Nat.add_mul]
  rcases hown.2 with ⟨rfl, rfl⟩ | ⟨g, o, cap, cur, rfl, hg, hnc, hcm, hcs, htake⟩
  · have hx : xs = [] := List.eq_nil_of_length_eq_zero (by simpa using hown.1)
    subst hx
    by_cases hm : m = 0
    · subst hm
      have hn : news = [] := List.eq_nil_of_length_eq_zero (by simpa using hs.newsLen)
      subst hn
      refine ⟨.slice none 0 0, w, ?_, OwnRow.nil w e i.size, ⟨rfl, rfl, rfl, Nat.le_refl _, fun _ _ _ => rfl⟩, .inl rfl⟩
      have hlen0 := hs.len w
      have hcells := hs.cells
      rcases hs.kind with ⟨e', hk⟩ | hk <;> simp [Builtin.append_, run_underlying ht, run_underlying hk, sizeOf, typeInfo, hi, hlen0, hcells]
    · have hr := run_append_grow_src (P := P) w t tx ty e i z ht hi hz none 0 0 [] (by simp [Builtin.firstCells]) x m news hs (by omega) (by simpa using hsmall) (growslice_fits (by omega) hbytes)
      exact ⟨_, _, hr, app_grown hzs hown.1 hs.newsLen (by omega) h63 _⟩
  · by_cases hroom : n + m ≤ cap
    · have hfit : o + (n * i.size + news.length) ≤ cur.size := by
        rw [hs.newsLen, ← Nat.add_mul]
        exact Nat.le_trans (Nat.add_le_add_left (Nat.mul_le_mul_right _ hroom) _) hcs
      have hst := run_storeCells_at P g (o + n * i.size) e news 0 cur w hg (by omega) hs.one
      simp only [Nat.add_zero] at hst
      have hr : (Builtin.append_ #[t, tx] ty #[.slice (some ⟨g, o, none⟩) n cap, x]).run P w = .ok (.slice (some ⟨g, o, none⟩) (n + m) cap) (w.setRow g (splice cur.toList (o + n * i.size) news).toArray) := by
        rcases hs.kind with ⟨e', hk⟩ | hk <;> simp [Builtin.append_, run_underlying ht, run_underlying hk, sizeOf, typeInfo, hi, hs.len, hroom, hs.cells, Addr.add_lit, hst, splice]
      have hxl : xs.length = n * i.size := hown.1
      refine ⟨_, _, hr, ⟨hlen, .inr ⟨g, o, cap, _, rfl, setRow_heap w g cur _ e _ hg, hroom, hcm, ?_, ?_⟩⟩, ⟨rfl, rfl, rfl, by simp, fun k _ hk => setRow_other w g k _ (fun e => hk (by simp [Value.ownBlock, e]))⟩, .inr (.inl rfl)⟩
      · simp only [List.size_toArray]
        rw [splice_length (by simp; omega)]
        simpa using hcs
      · simp only
        rw [drop_splice (by simp; omega)]
        unfold splice
        rw [htake, ← hlen]
        exact List.take_left
    · have holds : (Builtin.firstCells i.size n (.slice (some ⟨g, o, none⟩) n cap)).run P w.drew = .ok xs.toArray w.drew :=
        run_firstCells_some w.drew i.size n ⟨g, o, none⟩ n cap xs hown.1 (fun j u hu => by
          obtain ⟨g', o', e1, e2⟩ := row_cell hown (off := 0) (y := .pointer (some ⟨g, o + 0, none⟩)) rfl
          injection e1 with e1; injection e1 with e1; injection e1 with e3 e4
          subst e3
          have := e2 j u hu
          rw [Addr.add_lit]
          simp only [Nat.add_zero] at e4
          subst e4
          simpa using this)
      have hr := run_append_grow_src (P := P) w t tx ty e i z ht hi hz (some ⟨g, o, none⟩) n cap xs holds x m news hs (by omega) hsmall (growslice_fits (by omega) hbytes)
      exact ⟨_, _, hr, app_grown hzs hown.1 hs.newsLen (by omega) h63 _⟩
/-- Onto a full slice whose cells are known. -/
theorem app_full {w : World} (t tx ty e : TypeId) (i : TypeInfo) (z : Value) (ht : P.underlying t = some (.slice e)) (hi : P.info? e = some i) (hz : i.zero = some z) (hzs : z.cells.size = i.size)
    (a : Addr) (n : Nat) (xs : List Value) (hxl : xs.length = n * i.size) (hx : ∀ j u, xs[j]? = some u → w.cell? (a.add j) = some u) (x : Value) (m : Nat) (news : List Value) (hs : Src P i.size tx x m news w) (hm : 0 < m)
    (h63 : n + m ≤ maxLen) (hbytes : (n + m) * i.bytes ≤ 140737488355328) :
    ∃ v' w', (Builtin.append_ #[t, tx] ty #[.slice (some a) n n, x]).run P w = .ok v' w' ∧ Apped w w' e i.size (n + m) (xs ++ news) v' none := by
  have hsmall : ((n + m : Nat) : Int) ≤ 9223372036854775807 := by simp only [maxLen] at h63; omega
  have holds : (Builtin.firstCells i.size n (.slice (some a) n n)).run P w.drew = .ok xs.toArray w.drew :=
    run_firstCells_some w.drew i.size n a n n xs hxl (by simpa using hx)
  have hr := run_append_grow_src (P := P) w t tx ty e i z ht hi hz (some a) n n xs holds x m news hs (by omega) hsmall (growslice_fits (by omega) hbytes)
  exact ⟨_, _, hr, app_grown hzs hxl hs.newsLen (by omega) h63 _⟩
end

/-! ### States -/
section
variable {w0 : World} {M : Nat → Prop} {H0 : Hp} {ρ : List Value} {H : Hp} {G : List SB} {w : World}
/-- A block is let go. -/
theorem blkAt_dead {k j x : Nat} (h : blkAt ρ (G.set k .dead) j = some x) : j ≠ k ∧ blkAt ρ G j = some x := by
  obtain ⟨s, r, h1, h2, h3⟩ := blkAt_some h
  by_cases hjk : k = j
  · subst hjk
    rcases Nat.lt_or_ge k G.length with hk | hk
    · rw [List.getElem?_set_self hk] at h1
      injection h1 with h1; subst h1
      simp [SB.blk] at h3
    · rw [List.getElem?_eq_none (by simpa using hk)] at h1; cases h1
  · rw [List.getElem?_set_ne hjk] at h1
    exact ⟨fun e => hjk e.symm, by rw [blkAt_eq h1 h2]; exact h3⟩
theorem St.kill (h : St w0 M H0 ρ H G w) (k : Nat) : St w0 M H0 ρ H (G.set k .dead) w :=
  ⟨h.os, h.tape, h.output, h.size, h.old, h.hle, h.hin, h.hnew, by simp [h.len], fun j s r h1 h2 => by
    by_cases hjk : k = j
    · subst hjk
      rcases Nat.lt_or_ge k G.length with hk | hk
      · rw [List.getElem?_set_self hk] at h1
        injection h1 with h1; subst h1; trivial
      · rw [List.getElem?_eq_none (by simpa using hk)] at h1; cases h1
    · rw [List.getElem?_set_ne hjk] at h1
      exact h.ok j s r h1 h2, fun j x hx => h.own j x (blkAt_dead hx).2, fun i j x hi hj => h.inj i j x (blkAt_dead hi).2 (blkAt_dead hj).2⟩
/-- The world has grown, and a block that nobody tells of any more may have turned. -/
theorem St.grew (h : St w0 M H0 ρ H G w) {w' : World} {ob : Option Nat} (hg : w.grownBy w' ob) (hob : ∀ g, ob = some g → (w0.heap.size ≤ g ∨ M g) ∧ H.Out g ∧ ∀ k, blkAt ρ G k ≠ some g) : St w0 M H0 ρ H G w' where
  os := hg.os.trans h.os
  tape := hg.tape.trans h.tape
  output := hg.output.trans h.output
  size := Nat.le_trans h.size hg.size
  old := fun b hb hM => by
    rw [← h.old b hb hM]
    refine hg.block b (Nat.lt_of_lt_of_le hb h.size) fun e => ?_
    rcases (hob b e.symm).1 with h1 | h1
    · omega
    · exact hM h1
  hle := h.hle
  hin := fun b o v e => by
    rw [← h.hin b o v e]
    refine cell_of_block (hg.block b (h.hin.lt e) fun e1 => ?_)
    rw [(hob b e1.symm).2.1 o] at e; cases e
  hnew := h.hnew
  len := h.len
  ok := fun k s r h1 h2 => (h.ok k s r h1 h2).move fun x hx => hg.block x ((h.ok k s r h1 h2).lt hx) fun e1 => (hob x e1.symm).2.2 k (by rw [blkAt_eq h1 h2]; exact hx)
  own := h.own
  inj := h.inj
/-- A block that nobody tells of is told of. -/
theorem St.adopt (h : St w0 M H0 ρ H G w) {s : SB} {r : Value} (hok : s.Ok (ρ ++ [r]) w r) (hb : ∀ g, s.blk r = some g → (w0.heap.size ≤ g ∨ M g) ∧ H.Out g ∧ ∀ k, blkAt ρ G k ≠ some g) : St w0 M H0 (ρ ++ [r]) H (G ++ [s]) w := by
  have key : ∀ k g, blkAt (ρ ++ [r]) (G ++ [s]) k = some g → (k < G.length ∧ blkAt ρ G k = some g) ∨ (k = G.length ∧ s.blk r = some g) := fun k g hg => by
    obtain ⟨s', r', h1, h2, h3⟩ := blkAt_some hg
    rcases Nat.lt_or_ge k G.length with hk | hk
    · rw [List.getElem?_append_left hk] at h1
      rw [List.getElem?_append_left (by rw [h.len]; exact hk)] at h2
      exact .inl ⟨hk, by rw [blkAt_eq h1 h2]; exact h3⟩
    · have hkl := (List.getElem?_eq_some_iff.1 h1).1
      simp at hkl
      obtain rfl : k = G.length := by omega
      rw [List.getElem?_append_right (Nat.le_refl _)] at h1
      rw [List.getElem?_append_right (by rw [h.len]; exact Nat.le_refl _)] at h2
      simp at h1
      simp [h.len] at h2
      subst h1 h2
      exact .inr ⟨rfl, h3⟩
  refine ⟨h.os, h.tape, h.output, h.size, h.old, h.hle, h.hin, h.hnew, by simp [h.len], ?_, ?_, ?_⟩
  · intro k s' r' h1 h2
    rcases Nat.lt_or_ge k G.length with hk | hk
    · rw [List.getElem?_append_left hk] at h1
      rw [List.getElem?_append_left (by rw [h.len]; exact hk)] at h2
      exact (h.ok k s' r' h1 h2).mono (Pre.append _ _)
    · have hkl := (List.getElem?_eq_some_iff.1 h1).1
      simp at hkl
      obtain rfl : k = G.length := by omega
      rw [List.getElem?_append_right (Nat.le_refl _)] at h1
      rw [List.getElem?_append_right (by rw [h.len]; exact Nat.le_refl _)] at h2
      simp at h1
      simp [h.len] at h2
      subst h1 h2
      exact hok
  · intro k g hg
    rcases key k g hg with ⟨_, h1⟩ | ⟨_, h1⟩
    · exact h.own k g h1
    · exact ⟨(hb g h1).1, (hb g h1).2.1⟩
  · intro i j g hi hj
    rcases key i g hi with ⟨_, a1⟩ | ⟨a0, a1⟩ <;> rcases key j g hj with ⟨_, b1⟩ | ⟨b0, b1⟩
    · exact h.inj i j g a1 b1
    · exact absurd a1 ((hb g b1).2.2 i)
    · exact absurd b1 ((hb g a1).2.2 j)
    · omega
/-- Behind an append: the row's block, whosever it was (k: out of which it grew). -/
theorem St.apped (h : St w0 M H0 ρ H G w) {w' : World} {e size n : Nat} {xs : List Value} {v' : Value} {ob : Option Nat} (ha : Apped w w' e size n xs v' ob) {k : Nat} (hob : ∀ g, ob = some g → blkAt ρ G k = some g) :
    St w0 M H0 (ρ ++ [v']) H (G.set k .dead ++ [.row e size n xs]) w' := by
  have hbn : ∀ g, ob = some g → (w0.heap.size ≤ g ∨ M g) ∧ H.Out g ∧ ∀ j, blkAt ρ (G.set k .dead) j ≠ some g := fun g hg =>
    ⟨(h.own k g (hob g hg)).1, (h.own k g (hob g hg)).2, fun j hj => (blkAt_dead hj).1 (h.inj j k g (blkAt_dead hj).2 (hob g hg))⟩
  refine ((h.kill k).grew ha.grown hbn).adopt ha.row fun g hg => ?_
  have hg' : v'.ownBlock = some g := hg
  rcases ha.blk with h1 | h1 | h1
  · rw [h1] at hg'; cases hg'
  · rw [h1] at hg'; exact hbn g hg'
  · rw [h1] at hg'; injection hg' with hg'; subst hg'
    refine ⟨.inl h.size, h.fresh, fun j hj => ?_⟩
    have := h.lt (blkAt_dead hj).2
    omega
end

/-! ### The operation -/
section
variable {P : Program}
/-- What is appended. -/
def srcX (T : Tab) (tx : TypeId) (size : Nat) (sx : SV) (H : Hp) (G : List SB) (K : Nat → List Value → Prop) : Prop :=
  tabX T tx fun xi => match xi.k with
    | .string => match sx with
      | .si (.ce (.val (.string s))) => natEq size 1 (K s.size (byteCells s))
      | _ => False
    | .slice _ => match sx with
      | .si (.ce (.val (.slice A m _))) => match A with
        | some a => ∃ ys, ys.length = m * size ∧ RdN H (some a) 0 ys ∧ (∀ u ∈ ys, u.oneCell' = true) ∧ K m ys
        | none => match m with
          | 0 => K 0 []
          | _ + 1 => False
      | .si (.ce (.self k)) => getG G k fun s => match s with
        | .row _ sz m ys => natEq sz size ((∀ u ∈ ys, u.oneCell' = true) ∧ K m ys)
        | _ => False
      | _ => False
    | _ => False
theorem RdN.cells {H : Hp} {w : World} (hin : H.In w) {a : Addr} {ys : List Value} (h : RdN H (some a) 0 ys) : ∀ (j : Nat) (u : Value), ys[j]? = some u → w.cell? (a.add j) = some u := by
  obtain ⟨b, o, e, h⟩ := h
  injection e with e
  subst e
  intro j u hu
  have := hin _ _ _ (h j u hu)
  rw [Addr.add_lit]
  simpa using this
theorem srcX_ok {T : Tab} (hT : TabOk P T) {tx : TypeId} {size : Nat} {sx : SV} {H : Hp} {G : List SB} {K : Nat → List Value → Prop} (h : srcX T tx size sx H G K) :
    ∃ m ys, K m ys ∧ ∀ ρ w x, Sw ρ H G w → sx.Is ρ x → Src P size tx x m ys w := by
  obtain ⟨xi, hxi, h'⟩ := tabX_ok hT h
  clear h
  split at h'
  · rename_i hk
    split at h'
    · rename_i s
      obtain ⟨hsz, h⟩ := natEq_ok h'
      clear h'
      subst hsz
      refine ⟨_, _, h, fun ρ w x hw hx => ?_⟩
      obtain rfl : x = _ := hx
      exact Src.ofString w (hxi.string hk) s
    · exact h'.elim
  · rename_i e' hk
    split at h'
    · rename_i A m c
      split at h'
      · rename_i a
        obtain ⟨ys, hl, hrd, h1, h⟩ := h'
        refine ⟨_, _, h, fun ρ w x hw hx => ?_⟩
        obtain rfl : x = _ := hx
        exact Src.ofSlice w (hxi.slice hk) a m c ys hl (hrd.cells hw.hin) h1
      · split at h'
        · refine ⟨_, _, h', fun ρ w x hw hx => ?_⟩
          obtain rfl : x = _ := hx
          exact Src.ofNil w (hxi.slice hk) c
        · exact h'.elim
    · rename_i k
      obtain ⟨s, hs, h⟩ := getG_ok h'
      clear h'
      split at h
      · obtain ⟨hsz, h1, h2⟩ := natEq_ok h
        clear h
        subst hsz
        refine ⟨_, _, h2, fun ρ w x hw hx => ?_⟩
        have hrow := hw.ok k _ x hs hx
        rcases hrow.2 with ⟨rfl, rfl⟩ | ⟨g, o, cap, cur, rfl, hg, _⟩
        · rename_i ys
          have : ys = [] := List.eq_nil_of_length_eq_zero (by simpa using hrow.1)
          subst this
          exact Src.ofNil w (hxi.slice hk) 0
        · exact Src.ofSlice w (hxi.slice hk) ⟨g, o, none⟩ _ cap _ hrow.1 (fun j u hu => by
            obtain ⟨g', o', e1, e2⟩ := row_cell hrow (off := 0) (y := .pointer (some ⟨g, o + 0, none⟩)) rfl
            injection e1 with e1; injection e1 with e1; injection e1 with e3 e4
            subst e3
            have := e2 j u hu
            rw [Addr.add_lit]
            simp only [Nat.add_zero] at e4
            subst e4
            simpa using this) h1
      · exact h.elim
    · exact h'.elim
  · exact h'.elim
/-- 'append(s, x...)'. -/
def appX (T : Tab) (t tx : TypeId) (ss sx : SV) (H : Hp) (G : List SB) (K : SV → List SB → Prop) : Prop :=
  tabX T t fun ti => match ti.k with
    | .slice e => tabX T e fun ei => srcX T tx ei.size sx H G fun m ys => match ss with
      | .si (.ce (.self k)) => getG G k fun s => match s with
        | .row e' sz n xs => natEq e' e <| natEq sz ei.size ((n + m) * (ei.bytes + 1) ≤ 140737488355328 ∧ setG G k .dead fun G' => appG G' (.row e ei.size (n + m) (xs ++ ys)) fun G'' j => K (.si (.ce (.self j))) G'')
        | _ => False
      | .si (.ce (.val (.slice A n c))) => match A with
        | none => match n, c with
          | 0, 0 => m * (ei.bytes + 1) ≤ 140737488355328 ∧ appG G (.row e ei.size m ys) fun G' j => K (.si (.ce (.self j))) G'
          | _, _ => False
        | some a => (m = 0 → n ≤ c ∧ (∃ b o, a = ⟨b, o, none⟩) ∧ K (.si (.ce (.val (.slice (some a) n c)))) G) ∧ (0 < m → n = c ∧ ∃ xs, xs.length = n * ei.size ∧ RdN H (some a) 0 xs ∧ (n + m) * (ei.bytes + 1) ≤ 140737488355328 ∧ appG G (.row e ei.size (n + m) (xs ++ ys)) fun G' j => K (.si (.ce (.self j))) G')
      | _ => False
    | _ => False
theorem mul_le_of_succ {a b c : Nat} (h : a * (b + 1) ≤ c) : a * b ≤ c ∧ a ≤ c := by rw [Nat.mul_succ] at h; omega
theorem appX_ok {T : Tab} (hT : TabOk P T) {o : Oper} {t tx : TypeId} {s x : Operand} (ho : o.op = .call ⟨.builtin .append, #[s, x], #[t, tx]⟩) {F : Fr} {H : Hp} {G : List SB} {K : SV → Hp → List SB → Prop} {Kp : List PanicEntry → Hp → List SB → Prop}
    (h : evX s F fun ss => evX x F fun sx => appX T t tx ss sx H G fun sv G' => K sv H G') : LO P o F H G K Kp := by
  obtain ⟨ss, hx1, hss⟩ := evX_ok h
  clear h
  obtain ⟨sx, hx2, hsx⟩ := evX_ok hx1
  clear hx1
  obtain ⟨ti, ht, h⟩ := tabX_ok hT hx2
  clear hx2
  have b1 : ∀ (a : Act), (#[s, x] : Array Operand).map a.eval = #[a.eval s, a.eval x] := fun a => by simp
  cases hk : ti.k with
  | slice e =>
    simp only [hk] at h
    obtain ⟨ei, he, hx1⟩ := tabX_ok hT h
    clear h
    obtain ⟨m, ys, h, hsrc⟩ := srcX_ok hT hx1
    clear hx1
    obtain ⟨i, z, hi, hi1, hi2, hz, hzc⟩ := he.info
    have hzs : z.cells.size = i.size := by rw [← Array.length_toList, hzc, List.length_map, he.zlen, hi1]
    rw [← hi1] at hsrc h
    rw [← hi2] at h
    have hbd : ∀ n, (n + m) * (i.bytes + 1) ≤ 140737488355328 → n + m ≤ maxLen ∧ (n + m) * i.bytes ≤ 140737488355328 := fun n hn => by
      obtain ⟨h1, h2⟩ := mul_le_of_succ hn
      exact ⟨by simp only [maxLen]; omega, h1⟩
    have hrun : ∀ (a : Act) (w : World), (execOp a.eval o).run P w = ((Builtin.append_ #[t, tx] o.type #[a.eval s, a.eval x]).run P w).andThen fun v w' => .ok (.value v) w' := fun a w => by
      simp only [execOp, ho, resolve, invoke, builtin, b1, Sem.run_bind, Sem.run_pure, Result.andThen_ok]
    split at h
    · rename_i k
      obtain ⟨sb, hsb, h'⟩ := getG_ok h
      clear h
      split at h'
      · rename_i e' sz n xs
        obtain ⟨he', hx1⟩ := natEq_ok h'
        clear h'
        obtain ⟨hsz, hb, hx2⟩ := natEq_ok hx1
        clear hx1
        subst he' hsz
        obtain ⟨_, hx3⟩ := setG_ok hx2
        clear hx2
        have h := appG_ok hx3
        clear hx3
        intro w0 M hgd H0 ρ a w hs hf
        have hρ : ρ[k]? = some (a.eval s) := hss ρ a hf
        obtain ⟨h63, hby⟩ := hbd n hb
        obtain ⟨v', w', hr, hap⟩ := app_own t tx o.type e' i z (ht.slice hk) hi hz hzs (a.eval s) n xs (hs.ok k _ _ hsb hρ) (a.eval x) m ys (hsrc ρ w _ hs.sw (hsx ρ a hf)) h63 hby
        rw [hrun, hr]
        refine ⟨_, ρ ++ [v'], H, _, hs.apped hap (k := k) (fun g hg => by rw [blkAt_eq hsb hρ]; exact hg), Pre.append _ _, ?_, .refl _, h⟩
        show (ρ ++ [v'])[_]? = some v'
        rw [List.getElem?_append_right (by simp [hs.len])]
        simp [hs.len]
      · exact h'.elim
    · rename_i A n c
      split at h
      · split at h
        · obtain ⟨hb, hx1⟩ := h
          have h := appG_ok hx1
          clear hx1
          intro w0 M hgd H0 ρ a w hs hf
          have e0 : a.eval s = .slice none 0 0 := hss ρ a hf
          obtain ⟨h63, hby⟩ := hbd 0 (by simpa using hb)
          obtain ⟨v', w', hr, hap⟩ := app_own t tx o.type e i z (ht.slice hk) hi hz hzs (a.eval s) 0 [] (by rw [e0]; exact OwnRow.nil w e i.size) (a.eval x) m ys (hsrc ρ w _ hs.sw (hsx ρ a hf)) h63 hby
          rw [hrun, hr]
          rw [e0] at hap
          simp only [Nat.zero_add, List.nil_append] at hap
          have hst := hs.apped hap (k := G.length) (fun g hg => by cases hg)
          rw [List.set_eq_of_length_le (Nat.le_refl _)] at hst
          refine ⟨_, ρ ++ [v'], H, _, hst, Pre.append _ _, ?_, .refl _, h⟩
          show (ρ ++ [v'])[_]? = some v'
          rw [List.getElem?_append_right (by simp [hs.len])]
          simp [hs.len]
        · exact h.elim
      · rename_i aa
        rcases Nat.eq_zero_or_pos m with hm | hm
        · obtain ⟨hnc, ⟨b, o', hab⟩, hx1⟩ := h.1 hm
          subst hm hab
          intro w0 M hgd H0 ρ a w hs hf
          have e0 : a.eval s = .slice (some ⟨b, o', none⟩) n c := hss ρ a hf
          have hsr := hsrc ρ w _ hs.sw (hsx ρ a hf)
          have hnil : ys = [] := List.eq_nil_of_length_eq_zero (by simpa using hsr.newsLen)
          subst hnil
          have hr := run_append_room_src (P := P) w t tx o.type e i (ht.slice hk) hi b o' n c (a.eval x) 0 [] hsr (by omega) (by simp) (by simp)
          rw [hrun, e0, hr]
          exact ⟨.si (.ce (.val (.slice (some ⟨b, o', none⟩) n c))), ρ, H, G, hs, .refl _, rfl, .refl _, hx1⟩
        · replace h := h.2 hm
          obtain ⟨hnc, xs, hxl, hrd, hb, hx1⟩ := h
          subst hnc
          have h := appG_ok hx1
          clear hx1
          intro w0 M hgd H0 ρ a w hs hf
          have e0 : a.eval s = .slice (some aa) n n := hss ρ a hf
          obtain ⟨h63, hby⟩ := hbd n hb
          obtain ⟨v', w', hr, hap⟩ := app_full t tx o.type e i z (ht.slice hk) hi hz hzs aa n xs hxl (hrd.cells hs.hin) (a.eval x) m ys (hsrc ρ w _ hs.sw (hsx ρ a hf)) hm h63 hby
          rw [hrun, e0, hr]
          have hst := hs.apped hap (k := G.length) (fun g hg => by cases hg)
          rw [List.set_eq_of_length_le (Nat.le_refl _)] at hst
          refine ⟨_, ρ ++ [v'], H, _, hst, Pre.append _ _, ?_, .refl _, h⟩
          show (ρ ++ [v'])[_]? = some v'
          rw [List.getElem?_append_right (by simp [hs.len])]
          simp [hs.len]
    · exact h.elim
  | _ => simp only [hk] at h
end
end Go.Kx
