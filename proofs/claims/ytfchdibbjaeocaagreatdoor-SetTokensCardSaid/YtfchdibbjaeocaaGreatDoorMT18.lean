/- Values of several cells compared; a row of one's own converted to its own type. Generic in the program; no condition of its own. -/
import Derived.Test.YtfchdibbjaeocaaGreatDoorMT17
import Derived.DeepKeys
import Derived.Laws.StructEq
import Derived.Lib.SlBytesConst
namespace Go.Kx
open Go.RowKit
section
variable {P : Program}
inductive CK
  | b | s
  | i (k : IntKind)
def ckLit : CK → Value → Option Lit
  | .b, .bool x => some (.bool x)
  | .s, .string s => if s.size ≤ maxLen then some (.string s.data.toList) else none
  | .i k, .int k' n => if k' = k ∧ (Lit.int k n).wf = true then some (.int k n) else none
  | _, _ => none
def litsK : List CK → List Value → Option (List Lit)
  | [], [] => some []
  | c :: cs, v :: vs => (ckLit c v).bind fun l => (litsK cs vs).map fun r => l :: r
  | _, _ => none
def shapeFs (P : Program) (sh : TypeId → Option (List CK)) : List Field → Nat → Option (List CK)
  | [], _ => some []
  | f :: fs, off => if Nat.beq f.offset off then (sh f.type).bind fun ks => if Nat.beq ks.length (P.cellsOf f.type) then (shapeFs P sh fs (off + ks.length)).map fun r => ks ++ r else none else none
def shapeK (P : Program) : Nat → TypeId → Option (List CK)
  | 0, _ => none
  | d + 1, t => match P.underlying t with
    | some .bool => some [.b]
    | some (.int k) => some [.i k]
    | some .string => some [.s]
    | some (.struct fs) => if fs.all (·.name != "_") then (shapeFs P (shapeK P d) fs.toList 0).bind fun ks => if Nat.beq ks.length (P.cellsOf t) then some ks else none else none
    | _ => none
theorem litsK_len : ∀ {ks : List CK} {vs : List Value} {la : List Lit}, litsK ks vs = some la → vs.length = ks.length
  | [], [], _, _ => rfl
  | [], _ :: _, _, h => by simp [litsK] at h
  | _ :: _, [], _, h => by simp [litsK] at h
  | c :: cs, v :: vs, la, h => by
    unfold litsK at h
    simp only [Option.bind_eq_some_iff, Option.map_eq_some_iff] at h
    obtain ⟨l, _, r, h2, _⟩ := h
    simp [litsK_len h2]
theorem litsK_split : ∀ {k1 k2 : List CK} {vs : List Value} {la : List Lit}, litsK (k1 ++ k2) vs = some la → ∃ l1 l2, litsK k1 (vs.take k1.length) = some l1 ∧ litsK k2 (vs.drop k1.length) = some l2 ∧ la = l1 ++ l2
  | [], k2, vs, la, h => ⟨[], la, by simp [litsK], by simpa using h, rfl⟩
  | c :: k1, k2, [], la, h => by simp [litsK] at h
  | c :: k1, k2, v :: vs, la, h => by
    simp only [List.cons_append, litsK, Option.bind_eq_some_iff, Option.map_eq_some_iff] at h
    obtain ⟨l, h1, r, h2, rfl⟩ := h
    obtain ⟨l1, l2, h3, h4, rfl⟩ := litsK_split h2
    refine ⟨l :: l1, l2, ?_, by simpa using h4, rfl⟩
    simp [litsK, h1, h3]
theorem bytes_ext {a b : ByteArray} (h : a.data.toList = b.data.toList) : a = b := by
  have := Array.toList_inj.1 h
  cases a; cases b; simpa using this
theorem ckLit_inj {c : CK} {u v : Value} {l : Lit} (h1 : ckLit c u = some l) (h2 : ckLit c v = some l) : u = v := by
  cases c <;> cases u <;> simp only [ckLit] at h1 <;> first | (cases h1; done) | skip
  all_goals cases v <;> simp only [ckLit] at h2 <;> first | (cases h2; done) | skip
  · injection h1 with h1; injection h2 with h2; rw [← h1] at h2; injection h2 with h2; rw [h2]
  · split at h1
    · split at h2
      · injection h1 with h1; injection h2 with h2
        rw [← h1] at h2
        injection h2 with h2
        exact congrArg Value.string (bytes_ext h2.symm)
      · cases h2
    · cases h1
  · split at h1
    · rename_i e1
      split at h2
      · rename_i e2
        injection h1 with h1; injection h2 with h2
        rw [← h1] at h2
        injection h2 with _ h2
        rw [e1.1, e2.1, h2]
      · cases h2
    · cases h1
theorem litsK_inj : ∀ {ks : List CK} {us vs : List Value} {l : List Lit}, litsK ks us = some l → litsK ks vs = some l → us = vs
  | [], [], [], _, _, _ => rfl
  | [], _ :: _, _, _, h, _ => by simp [litsK] at h
  | [], [], _ :: _, _, _, h => by simp [litsK] at h
  | _ :: _, [], _, _, h, _ => by simp [litsK] at h
  | _ :: _, _ :: _, [], _, _, h => by simp [litsK] at h
  | c :: ks, u :: us, v :: vs, l, h1, h2 => by
    simp only [litsK, Option.bind_eq_some_iff, Option.map_eq_some_iff] at h1 h2
    obtain ⟨a, a1, r, a2, rfl⟩ := h1
    obtain ⟨b, b1, r2, b2, h⟩ := h2
    injection h with h3 h4
    subst h3 h4
    rw [ckLit_inj a1 b1, litsK_inj a2 b2]
theorem shapeFs_lits {sh : TypeId → Option (List CK)} {kl : TypeId → List Value → Option (List Lit)} (hsh : ∀ t ks vs la, sh t = some ks → litsK ks vs = some la → kl t vs = some la) (cs : List Value) : ∀ (fs : List Field) (off : Nat) (ks : List CK) (la : List Lit), shapeFs P sh fs off = some ks → litsK ks (cs.drop off) = some la →
    ∃ al, (fs.mapM fun f => kl f.type ((cs.drop f.offset).take (P.cellsOf f.type))) = some al ∧ al.flatten = la
  | [], off, ks, la, h1, h2 => by
    simp only [shapeFs, Option.some.injEq] at h1
    subst h1
    refine ⟨[], by simp, ?_⟩
    cases hd : cs.drop off with
    | nil => rw [hd] at h2; simp only [litsK, Option.some.injEq] at h2; rw [← h2]; rfl
    | cons a r => rw [hd] at h2; simp [litsK] at h2
  | f :: fs, off, ks, la, h1, h2 => by
    unfold shapeFs at h1
    split at h1
    · rename_i ho
      have ho := Nat.eq_of_beq_eq_true ho
      simp only [Option.bind_eq_some_iff] at h1
      obtain ⟨k1, hk1, h1⟩ := h1
      split at h1
      · rename_i hl
        have hl := Nat.eq_of_beq_eq_true hl
        simp only [Option.map_eq_some_iff] at h1
        obtain ⟨k2, hk2, rfl⟩ := h1
        obtain ⟨l1, l2, h3, h4, rfl⟩ := litsK_split h2
        rw [List.drop_drop] at h4
        obtain ⟨al, ha, hf⟩ := shapeFs_lits hsh cs fs (off + k1.length) k2 l2 hk2 h4
        have h5 := hsh f.type k1 _ l1 hk1 h3
        rw [hl, ← ho] at h5
        refine ⟨l1 :: al, ?_, by simp [hf]⟩
        rw [List.mapM_cons, h5, ha]
        rfl
      · cases h1
    · cases h1
theorem shapeK_lits : ∀ (d : Nat) (t : TypeId) (ks : List CK) (vs : List Value) (la : List Lit), shapeK P d t = some ks → litsK ks vs = some la → P.keyLits d t vs = some la
  | 0, _, _, _, _, h, _ => by simp [shapeK] at h
  | d + 1, t, ks, vs, la, h, h2 => by
    unfold shapeK at h
    split at h
    · rename_i hu
      injection h with h; subst h
      have hl := litsK_len h2
      match vs, hl with
      | [v], _ =>
        cases v <;> simp [litsK, ckLit] at h2
        simp [Program.keyLits, hu, h2]
    · rename_i k hu
      injection h with h; subst h
      have hl := litsK_len h2
      match vs, hl with
      | [v], _ =>
        cases v with
        | int k' n =>
          by_cases hc : k' = k ∧ (Lit.int k n).wf = true
          · simp only [litsK, ckLit, if_pos hc, Option.bind_some, Option.map_some] at h2
            unfold Program.keyLits
            rw [hu]
            simp only []
            rw [if_pos hc]; exact h2
          · simp [litsK, ckLit, if_neg hc] at h2
        | _ => simp [litsK, ckLit] at h2
    · rename_i hu
      injection h with h; subst h
      have hl := litsK_len h2
      match vs, hl with
      | [v], _ =>
        cases v with
        | string s =>
          by_cases hc : s.size ≤ maxLen
          · simp only [litsK, ckLit, if_pos hc, Option.bind_some, Option.map_some] at h2
            unfold Program.keyLits
            rw [hu]
            simp only []
            rw [if_pos hc]; exact h2
          · simp [litsK, ckLit, if_neg hc] at h2
        | _ => simp [litsK, ckLit] at h2
    · rename_i fs hu
      split at h
      · rename_i hn
        simp only [Option.bind_eq_some_iff] at h
        obtain ⟨ks', hk, h⟩ := h
        split at h
        · rename_i hl
          have hl := Nat.eq_of_beq_eq_true hl
          injection h with h; subst h
          have hlen := litsK_len h2
          obtain ⟨al, ha, hf⟩ := shapeFs_lits (P := P) (kl := P.keyLits d) (fun t ks vs la a b => shapeK_lits d t ks vs la a b) vs fs.toList 0 ks' la hk (by simpa using h2)
          unfold Program.keyLits
          rw [hu]
          simp only []
          rw [if_pos ⟨by omega, hn⟩, ha]
          simp [hf]
        · cases h
      · cases h
    · cases h
theorem QO.agg {o : Oper} {op : BinOp} {t ty : TypeId} {x y : Operand} (ho : o.op = .binOp op t x y ty) {F : Fr} {H : Hp} {G : List SB} {K : SV → Prop} (xs ys : List Value) (ks : List CK)
    (hx : evX x F fun sv => sv = .si (.ag (xs.map SC.val))) (hy : evX y F fun sv => sv = .si (.ag (ys.map SC.val)))
    (hg : P.eqGuardType P.depth t = false) (hk : P.keyTypeAt 8 t = true) (hs : shapeK P 8 t = some ks) (fx : (Value.agg xs.toArray).formed P t = true) (fy : (Value.agg ys.toArray).formed P t = true)
    (lx : (litsK ks xs).isSome = true) (ly : (litsK ks ys).isSome = true)
    (h : ∀ r : Bool, (r = true ↔ xs = ys) → (op = .eql ∧ K (pv (.bool r))) ∨ (op = .neq ∧ K (pv (.bool (!r))))) : QO P o F H G K := by
  obtain ⟨sx, rfl, hxv⟩ := evX_ok hx
  obtain ⟨sy, rfl, hyv⟩ := evX_ok hy
  obtain ⟨la, hla⟩ := Option.isSome_iff_exists.1 lx
  obtain ⟨lb, hlb⟩ := Option.isSome_iff_exists.1 ly
  have ka := shapeK_lits 8 t ks xs la hs hla
  have kb := shapeK_lits 8 t ks ys lb hs hlb
  have hall : ∀ (zs : List Value) ρ us, All2 (SC.Is ρ) (zs.map SC.val) us → us = zs := by
    intro zs
    induction zs with
    | nil => intro ρ us hu; cases hu; rfl
    | cons z zs ih => intro ρ us hu; cases hu with | cons h1 h2 => rw [ih ρ _ h2]; obtain rfl := h1; rfl
  have hval : ∀ (zs : List Value) ρ v, SV.Is ρ (.si (.ag (zs.map SC.val))) v → v = .agg zs.toArray := by
    rintro zs ρ v ⟨us, rfl, hu⟩
    rw [hall zs ρ us hu]
  have hr : ∀ w : World, ∃ r : Bool, (Op.equalIn 10000 t (.agg xs.toArray) (.agg ys.toArray)).run P w = .ok r w ∧ (r = true ↔ la = lb) := fun w =>
    run_equalIn_deep 9992 8 t hk w 8 8 _ _ la lb fx fy (by simpa [Value.cells] using ka) (by simpa [Value.cells] using kb)
  have hiff : la = lb ↔ xs = ys := ⟨fun e => litsK_inj hla (by rw [e]; exact hlb), fun e => by subst e; rw [hla] at hlb; injection hlb⟩
  have hone : ∀ w w' : World, ∀ r r' : Bool, (r = true ↔ la = lb) → (r' = true ↔ la = lb) → r = r' := fun w w' r r' h1 h2 => by
    cases r <;> cases r' <;> simp_all
  have hb : ∃ b : Bool, (b = true ↔ la = lb) := by
    by_cases e : la = lb
    · exact ⟨true, by simp [e]⟩
    · exact ⟨false, by simp [e]⟩
  obtain ⟨b, hb⟩ := hb
  rcases h b (hb.trans hiff) with ⟨rfl, hK⟩ | ⟨rfl, hK⟩
  · refine ⟨_, hK, fun ρ a wc hf hw => ⟨_, rfl, fun w _ => ?_⟩⟩
    have e1 := hval xs ρ _ (hxv ρ a hf)
    have e2 := hval ys ρ _ (hyv ρ a hf)
    obtain ⟨r, hr1, hr2⟩ := hr w
    obtain rfl := hone w w r b hr2 hb
    have e : execOp a.eval o = (do pure (.value (← ((do eqGuard .eql t x y (a.eval x) (a.eval y); binOp .eql t (a.eval x) (a.eval y)) : Sem Value)))) := by simp only [execOp, ho]
    rw [e, e1, e2]
    simp only [Sem.run_bind, run_eqGuard_agg w .eql t x y _ _ hg, Result.andThen_ok, run_eql_struct, hr1, Sem.run_pure]
  · refine ⟨_, hK, fun ρ a wc hf hw => ⟨_, rfl, fun w _ => ?_⟩⟩
    have e1 := hval xs ρ _ (hxv ρ a hf)
    have e2 := hval ys ρ _ (hyv ρ a hf)
    obtain ⟨r, hr1, hr2⟩ := hr w
    obtain rfl := hone w w r b hr2 hb
    have e : execOp a.eval o = (do pure (.value (← ((do eqGuard .neq t x y (a.eval x) (a.eval y); binOp .neq t (a.eval x) (a.eval y)) : Sem Value)))) := by simp only [execOp, ho]
    rw [e, e1, e2]
    simp only [Sem.run_bind, run_eqGuard_agg w .neq t x y _ _ hg, Result.andThen_ok, run_neq_struct, hr1, Sem.run_pure]
theorem freeze_cells {w : World} {g : Nat} {cur : Array Value} {et : TypeId} {z : Nat × Nat} (hg : w.heap[g]? = some (.cells cur et z)) (n m : Nat) :
    (w.freeze ⟨g, n, none⟩ m).os = w.os ∧ (w.freeze ⟨g, n, none⟩ m).tape = w.tape ∧ (w.freeze ⟨g, n, none⟩ m).output = w.output ∧ (w.freeze ⟨g, n, none⟩ m).heap.size = w.heap.size ∧ (∀ b, b ≠ g → (w.freeze ⟨g, n, none⟩ m).heap[b]? = w.heap[b]?) ∧ ∃ z', (w.freeze ⟨g, n, none⟩ m).heap[g]? = some (.cells cur et z') := by
  unfold World.freeze
  split
  · exact ⟨rfl, rfl, rfl, rfl, fun _ _ => rfl, _, hg⟩
  · refine ⟨rfl, rfl, rfl, by simp, fun b hb => ?_, ?_⟩
    · simp [Array.getElem?_modify, Ne.symm hb]
    · obtain ⟨lo, hi⟩ := z
      simp [Array.getElem?_modify, hg]
theorem run_convert_own {w : World} {t e et : TypeId} {g o n cap : Nat} {cur : Array Value} {z : Nat × Nat} (ht : P.underlying t = some (.slice e)) (he : P.underlying e = some (.int .u8)) (hg : w.heap[g]? = some (.cells cur et z)) :
    (convert t t (.slice (some ⟨g, o, none⟩) n cap)).run P w = .ok (.slice (some ⟨g, o, none⟩) n cap) (w.freeze ⟨g, cur.size, none⟩ 1) := by
  have hsh : w.shape? g = some (et, cur.size) := by
    unfold World.shape?
    rw [hg]
  simp [convert, run_underlying ht, run_underlying he, markStringish, hsh]
theorem LO.convOwn {o : Oper} {t e et : TypeId} {x : Operand} (ho : o.op = .convert t t x) {F : Fr} {H : Hp} {G : List SB} {K : SV → Hp → List SB → Prop} {Kp : List PanicEntry → Hp → List SB → Prop} (k : Nat) {n : Nat} {xs : List Value}
    (hx : evX x F fun sv => sv = .si (.ce (.self k))) (hk : G[k]? = some (.row et 1 n xs)) (hn : 0 < n) (ht : P.underlying t = some (.slice e)) (he : P.underlying e = some (.int .u8))
    (h : ∀ a c H', H.Le H' → RdN H' (some a) 0 xs → K (pv (.slice (some a) n c)) H' (G.set k .dead)) : LO P o F H G K Kp := by
  intro w0 M hgd H0 ρ a w hs hf
  obtain ⟨sx, rfl, hxv⟩ := evX_ok hx
  have hv : ρ[k]? = some (a.eval x) := hxv ρ a hf
  obtain ⟨r, hr, hok⟩ := hs.at hk
  obtain rfl : r = a.eval x := by rw [hr] at hv; injection hv
  rcases hok.2 with ⟨_, h0⟩ | ⟨g, off, cap, cur, hre, hg, hnc, hcm, hcs, htk⟩
  · omega
  have hblk : blkAt ρ G k = some g := by rw [blkAt_eq hk hr, hre]; rfl
  obtain ⟨f1, f2, f3, f4, f5, z', f6⟩ := freeze_cells hg cur.size 1
  generalize hw' : w.freeze ⟨g, cur.size, none⟩ 1 = w' at *
  have hrun : (execOp a.eval o).run P w = .ok (.value (.slice (some ⟨g, off, none⟩) n cap)) w' := by
    have := run_convert_own (n := n) (cap := cap) (o := off) ht he hg
    rw [hw'] at this
    simp [execOp, ho, hre, this]
  have hout : H.Out g := (hs.own k g hblk).2
  have hst : St w0 M H0 ρ H (G.set k .dead) w' := hs.turn hk hr (g := g) (by rw [hre]; rfl) f1 f2 f3 (by omega) (fun b _ hb => f5 b hb) trivial (.inr rfl)
  have hnk : ∀ j y, blkAt ρ (G.set k .dead) j = some y → y ≠ g := fun j y hj e => by
    subst e
    obtain ⟨s1, r1, h1, h2, h3⟩ := blkAt_some hj
    have hkl := (List.getElem?_eq_some_iff.1 hk).1
    by_cases hjk : k = j
    · subst hjk
      rw [List.getElem?_set_self hkl] at h1
      injection h1 with h1; subst h1
      simp [SB.blk] at h3
    · rw [List.getElem?_set_ne hjk] at h1
      exact hjk (hs.inj k j y hblk (by rw [blkAt_eq h1 h2]; exact h3))
  have hcell : ∀ b i v, H.putAt g off xs b i = some v → H b i = some v ∨ (b = g ∧ w'.cell? ⟨g, i, none⟩ = some v) := fun b i v ev => by
    rcases Hp.putAt_inv ev with e1 | ⟨rfl, e0, e1⟩
    · exact .inl e1
    · refine .inr ⟨rfl, ?_⟩
      rw [Nat.mul_one] at htk
      rw [← htk, List.getElem?_take] at e1
      split at e1
      · simp only [World.cell?, f6]
        rw [List.getElem?_drop, show off + (i - off) = i by omega] at e1
        simpa using e1
      · cases e1
  have hst2 : St w0 M H0 ρ (H.putAt g off xs) (G.set k .dead) w' := by
    refine ⟨hst.os, hst.tape, hst.output, hst.size, hst.old, hst.hle.trans (Hp.putAt_le hout), ?_, ?_, hst.len, hst.ok, ?_, hst.inj⟩
    · intro b i v ev
      rcases hcell b i v ev with e1 | ⟨rfl, e1⟩
      · exact hst.hin b i v e1
      · exact e1
    · intro b i v ev
      rcases hcell b i v ev with e1 | ⟨rfl, e1⟩
      · exact hst.hnew b i v e1
      · exact .inr (hs.own k b hblk).1
    · intro j y hj
      obtain ⟨h1, h2⟩ := hst.own j y hj
      refine ⟨h1, fun i => ?_⟩
      cases ev : H.putAt g off xs y i with
      | none => rfl
      | some v =>
        rcases hcell y i v ev with e1 | ⟨e1, _⟩
        · rw [h2 i] at e1; cases e1
        · exact absurd e1 (hnk j y hj)
  rw [hrun]
  exact ⟨pv (.slice (some ⟨g, off, none⟩) n cap), ρ, H.putAt g off xs, G.set k .dead, hst2, .refl _, rfl, Hp.putAt_le hout, h ⟨g, off, none⟩ cap _ (Hp.putAt_le hout) Hp.putAt_rd⟩
end
end Go.Kx
namespace Go.Kx.L13
open Go.Proofs Go.Kx Go.RowKit Go.Kx.Js Go.Kx.Pr Go.Kx.Rt Go.Kx.Ob Go.Kx.Wo Go.Kx.Cl Go.Kx.Pa Go.Kx.Su Go.Kx.Se
set_option maxRecDepth 20000
set_option linter.unusedSimpArgs false
def T : Tab := [(25, { k := TK.st [(0, 9, 1), (1, 9, 1), (2, 9, 1), (3, 3, 1), (4, 9, 1), (5, 23, 3), (8, 3, 1), (9, 9, 1)], agg := true, size := 10, bytes := 144, zero := [Z.s, Z.s, Z.s, Z.i IntKind.i64, Z.s, Z.s, Z.s, Z.s, Z.i IntKind.i64, Z.s] }), (34, { k := TK.st [(0, 3, 1), (1, 4, 1), (2, 9, 1), (3, 31, 1), (4, 32, 1)], agg := true, size := 5, bytes := 80, zero := [Z.i IntKind.i64, Z.b, Z.s, Z.sl, Z.sl] }), (52, { k := TK.st [(0, 9, 1), (1, 34, 5)], agg := true, size := 6, bytes := 96, zero := [Z.s, Z.i IntKind.i64, Z.b, Z.s, Z.sl, Z.sl] }), (5, { k := TK.int IntKind.u8, agg := false, size := 1, bytes := 1, zero := [Z.i IntKind.u8] }), (9, { k := TK.string, agg := false, size := 1, bytes := 16, zero := [Z.s] }), (23, { k := TK.st [(0, 9, 1), (1, 9, 1), (2, 9, 1)], agg := true, size := 3, bytes := 48, zero := [Z.s, Z.s, Z.s] }), (3, { k := TK.int IntKind.i64, agg := false, size := 1, bytes := 8, zero := [Z.i IntKind.i64] }), (4, { k := TK.bool, agg := false, size := 1, bytes := 1, zero := [Z.b] }), (69, { k := TK.slice 9, agg := false, size := 1, bytes := 24, zero := [Z.sl] }), (55, { k := TK.slice 5, agg := false, size := 1, bytes := 24, zero := [Z.sl] }), (35, { k := TK.int IntKind.i64, agg := false, size := 1, bytes := 8, zero := [Z.i IntKind.i64] }), (28, { k := TK.st [(0, 9, 1), (1, 9, 1), (2, 9, 1), (3, 3, 1), (4, 9, 1), (5, 9, 1), (6, 9, 1), (7, 9, 1), (8, 3, 1), (9, 9, 1)], agg := true, size := 10, bytes := 144, zero := [Z.s, Z.s, Z.s, Z.i IntKind.i64, Z.s, Z.s, Z.s, Z.s, Z.i IntKind.i64, Z.s] }), (31, { k := TK.slice 34, agg := false, size := 1, bytes := 24, zero := [Z.sl] }), (32, { k := TK.slice 52, agg := false, size := 1, bytes := 24, zero := [Z.sl] })]
set_option maxRecDepth 100000 in
theorem tab : TabOk Tryz.prog T := tabOk_mk (ts := [25, 34, 52, 5, 9, 23, 3, 4, 69, 55, 35, 28, 31, 32]) (by kernel_rfl)
theorem mixed : Tryz.prog.follows .mixedOrders = true := by kernel_rfl
def smpC : Clm := ⟨⟨#[105]⟩, ⟨#[106]⟩, ⟨#[97]⟩, 5, ⟨#[116]⟩, ⟨sOpaque, ⟨#[117]⟩, ⟨#[]⟩⟩, 3, ⟨#[]⟩⟩
def keyL : List UInt8 := ([48, 49, 50, 51, 52, 53, 54, 55, 56, 57, 97, 98, 99, 100, 101, 102] : List UInt8)
theorem smp_right : clRight smpC = true := by decide +kernel
theorem smp_sign : ∃ s, csignP smpC ⟨#[107, 49]⟩ keyL = (s, 0) := by
  unfold csignP
  rw [smp_right, if_neg (by decide)]
  unfold Jw.signP
  have h1 : (Wo.wordP 40 ⟨#[107, 49]⟩ && Wo.wordP 40 sType) = true := by decide +kernel
  rw [h1, if_neg (by decide), if_neg (by have := cl_wrl ((right_iff _).1 smp_right); omega), if_neg (by decide)]
  exact ⟨_, rfl⟩
theorem sign_size {kid typ : ByteArray} {pl key : List UInt8} {s : ByteArray} {x : Int} (h : Jw.signP kid typ pl key = (s, x)) : s.size ≤ 49152 := by
  unfold Jw.signP at h
  split at h
  · injection h with h; rw [← h]; decide
  split at h
  · injection h with h; rw [← h]; decide
  split at h
  · injection h with h; rw [← h]; decide
  rename_i h1 h2 h3
  injection h with h
  simp only [Bool.not_eq_false, Bool.and_eq_true] at h1
  have l1 := Jw.encP_len _ (wrJ (Jw.headJ kid typ)) (Nat.lt_succ_self _)
  have l2 := Jw.encP_len _ pl (Nat.lt_succ_self _)
  have l3 := Jw.encP_len _ (Sha.hmac key (Jw.signedP kid typ pl)) (Nat.lt_succ_self _)
  have l4 : (Sha.hmac key (Jw.signedP kid typ pl)).length = 32 := Sha.sha_length _
  have l5 := Jw.head_len h1.1 h1.2
  have lsg : (Jw.signedP kid typ pl).length = (En.encP (wrJ (Jw.headJ kid typ))).length + ((En.encP pl).length + 1) := by unfold Jw.signedP; rw [List.length_append, List.length_cons]
  rw [← h, Jw.bs_size]
  unfold Jw.tokenP
  rw [List.length_append, List.length_cons]
  omega
theorem csign_size {c : Clm} {kid : ByteArray} {key : List UInt8} {s : ByteArray} {x : Int} (h : csignP c kid key = (s, x)) : s.size ≤ 49152 := by
  unfold csignP at h
  split at h
  · injection h with h; rw [← h]; decide
  · exact sign_size h
def cellsC (c : Clm) : List Value := [.string c.iss, .string c.jti, .string c.aud, .int .i64 c.iat, .string c.txn, .string c.sub.fmt, .string c.sub.id, .string c.sub.own, .int .i64 c.kind, .string c.reason]
def ksC : List CK := [.s, .s, .s, .i .i64, .s, .s, .s, .s, .i .i64, .s]
structure FitC (c : Clm) : Prop where
  a : c.iss.size ≤ maxLen
  b : c.jti.size ≤ maxLen
  c' : c.aud.size ≤ maxLen
  n : (Lit.int .i64 c.iat).wf = true
  t : c.txn.size ≤ maxLen
  f : c.sub.fmt.size ≤ maxLen
  i : c.sub.id.size ≤ maxLen
  o : c.sub.own.size ≤ maxLen
  k : (Lit.int .i64 c.kind).wf = true
  r : c.reason.size ≤ maxLen
theorem FitC.lits {c : Clm} (h : FitC c) : (litsK ksC (cellsC c)).isSome = true := by
  unfold ksC cellsC
  simp only [litsK, ckLit, if_pos h.a, if_pos h.b, if_pos h.c', h.n, if_pos h.t, if_pos h.f, if_pos h.i, if_pos h.o, h.k, if_pos h.r, Option.bind_some, Option.map_some, and_self, if_true, Option.isSome_some]
theorem cellsC_inj {c d : Clm} : cellsC c = cellsC d ↔ c = d := by
  constructor
  · intro h
    obtain ⟨a, b, c', n, t, ⟨f, i, o⟩, k, r⟩ := c
    obtain ⟨a2, b2, c2, n2, t2, ⟨f2, i2, o2⟩, k2, r2⟩ := d
    simp only [cellsC, List.cons.injEq, Value.string.injEq, Value.int.injEq, true_and, and_true] at h
    obtain ⟨rfl, rfl, rfl, rfl, rfl, rfl, rfl, rfl, rfl, rfl⟩ := h
    rfl
  · rintro rfl; rfl
theorem gC : Tryz.prog.eqGuardType Tryz.prog.depth 25 = false := by kernel_rfl
theorem kC : Tryz.prog.keyTypeAt 8 25 = true := by kernel_rfl
theorem sC : shapeK Tryz.prog 8 25 = some ksC := by kernel_rfl
theorem fC (c : Clm) : (Value.agg (cellsC c).toArray).formed Tryz.prog 25 = true := by kernel_rfl
theorem smp_fit : FitC smpC := ⟨by decide, by decide, by decide, by decide, by decide, by decide, by decide, by decide, by decide, by decide⟩
theorem sample_ (H : Hp) : CallO Tryz.prog 45 [] H [] fun e H' G' => e = .ret (.si (.ag (csC smpC))) ∧ H' = H ∧ G' = [] := by
  refine CallO.of_body tab Tryz.func45 rfl (nt := Tryz.f45.ntmps) rfl (by kernel_rfl) ?_
  (conv => whnf)
  exact ⟨rfl, rfl, rfl⟩
theorem anchor_ (H : Hp) (hE : ErrH H) : CallO Tryz.prog 12 [] H [] fun e H' G' => e = .ret (pv (.bool true)) ∧ H.Le H' ∧ G' = [] := by
  obtain ⟨tok, hsg⟩ := smp_sign
  have hrd := sign_read hsg
  refine CallO.of_body tab Tryz.func12 rfl (nt := Tryz.f12.ntmps) rfl (by kernel_rfl) ?_
  (conv => whnf)
  refine ⟨⟨_, Tryz.func28, rfl, by kernel_rfl⟩, CallS.use (name_ 3 (by decide) (by decide) H) [] rfl rfl trivial ?_⟩
  rintro e H1 G' hle1 ⟨rfl, hle1', rfl⟩
  (conv => whnf)
  refine ⟨by decide, .inr ?_⟩
  refine ⟨rfl, ?_⟩
  (conv => whnf)
  change LO _ _ _ _ _ _ _
  refine LO.convOwn (t := 55) (e := 5) (et := 5) (x := .tmp 12) (n := 16) (xs := bCells keyL) ?_ 0 ?_ ?_ (by decide) (by kernel_rfl) (by kernel_rfl) ?_
  · rfl
  · rfl
  · rfl
  intro g c2 H2 hle2 hkr
  (conv => whnf)
  have hkb : BytesAt H2 (some g) 16 keyL := .lit rfl hkr
  refine ⟨⟨_, Tryz.func45, rfl, by kernel_rfl⟩, CallS.use (sample_ H2) [] rfl rfl trivial ?_⟩
  rintro e H3 G' hle3 ⟨rfl, rfl, rfl⟩
  (conv => whnf)
  have hs := sign_ smpC ⟨by decide, by decide⟩ ⟨#[107, 49]⟩ keyL (some g) c2 (by decide) H3 hkb
  rw [hsg] at hs
  refine ⟨⟨_, Tryz.func24, rfl, by kernel_rfl⟩, CallS.use hs [] rfl rfl trivial ?_⟩
  rintro e H4 G' hle4 ⟨rfl, hle4', rfl⟩
  (conv => whnf)
  have hr := read_ tok (by have := csign_size hsg; omega) keyL (some g) 16 c2 (by decide) H4 (hE.mono ((hle1.trans hle2).trans hle4)) (hkb.mono hle4)
  rw [hrd] at hr
  refine ⟨⟨_, Tryz.func26, rfl, by kernel_rfl⟩, CallS.use hr [] rfl rfl trivial ?_⟩
  rintro e H5 G' hle5 ⟨rfl, hle5', rfl⟩
  (conv => whnf)
  refine WS.draw tab mixed (.take 0 (.take 1 (.take 2 (.take 3 (.take 4 (.take 5 (.take 6 (.take 7 (.take 8 (.take 9 (.take 10 (.take 11 (.take 12 (.take 13 (.take 14 (.alt 15 (.take 16 (.take 17 (.take 18 .done))) .no)))))))))))))))) (by kernel_rfl) [] ?_
  (conv => whnf)
  refine And.intro ?_ ?_ <;> (conv => whnf)
  rotate_left
  · exact trivial
  refine ⟨⟨_, Tryz.func45, rfl, by kernel_rfl⟩, CallS.use (sample_ H5) [] rfl rfl trivial ?_⟩
  rintro e H6 G' hle6 ⟨rfl, rfl, rfl⟩
  (conv => whnf)
  refine ⟨⟨trivial, rfl, trivial⟩, ?_⟩
  (conv => whnf)
  change QO _ _ _ _ _ _
  refine QO.agg (t := 25) (ty := 25) (op := .eql) (x := .tmp 40) (y := .tmp 41) ?_ (cellsC smpC) (cellsC smpC) ksC ?_ ?_ gC kC sC (fC _) (fC _) smp_fit.lits smp_fit.lits ?_
  · rfl
  · rfl
  · rfl
  intro r hr
  obtain rfl : r = true := hr.2 rfl
  refine .inl ⟨rfl, ?_⟩
  (conv => whnf)
  exact ⟨rfl, ((hle1.trans hle2).trans hle4).trans hle5, rfl⟩
end Go.Kx.L13
namespace Go.Kx.L13
open Go.Proofs Go.Kx Go.RowKit Go.Kx.Js Go.Kx.Pr Go.Kx.Rt Go.Kx.Ob Go.Kx.Wo Go.Kx.Cl Go.Kx.Pa Go.Kx.Su Go.Kx.Se Go.Kx.Jw
set_option maxRecDepth 20000
set_option linter.unusedSimpArgs false
theorem wf64 {n : Int} (h0 : -9223372036854775808 ≤ n) (h1 : n ≤ 9223372036854775807) : (Lit.int .i64 n).wf = true := by
  have e0 : IntKind.i64.min = -9223372036854775808 := by decide
  have e1 : IntKind.i64.max = 9223372036854775807 := by decide
  simp [Lit.wf, e0, e1, h0, h1]
theorem fit_right {c : Clm} (h : RightC c) : FitC c := by
  have hm : 256 ≤ maxLen := by decide
  have w : ∀ {s : ByteArray}, Wo.wordP 256 s = true → s.size ≤ maxLen := fun hw => Nat.le_trans (word_size hw).1 hm
  have hs : c.sub.fmt.size ≤ maxLen ∧ c.sub.id.size ≤ maxLen ∧ c.sub.own.size ≤ maxLen := by
    rcases sub_cases h.sub with ⟨id, e, h1⟩ | ⟨id, e, h1, h2⟩ | ⟨id, own, e, h1, h2⟩
    · rw [e]; exact ⟨(by decide : sOpaque.size ≤ maxLen), w h1, Nat.zero_le _⟩
    · rw [e]; exact ⟨(by decide : sEmail.size ≤ maxLen), w h1, Nat.zero_le _⟩
    · rw [e]; exact ⟨(by decide : sIssSub.size ≤ maxLen), w h1, w h2⟩
  exact ⟨w h.iss, w h.jti, w h.aud, wf64 (by have := h.iat; omega) (by have := h.iat; omega), w h.txn, hs.1, hs.2.1, hs.2.2, wf64 (by have := h.kind; omega) (by have := h.kind; omega), Nat.le_trans (reason_size h) hm⟩
theorem fit0 : FitC clm0 := ⟨by decide, by decide, by decide, by decide, by decide, by decide, by decide, by decide, by decide, by decide⟩
theorem read_right {s : ByteArray} {key : List UInt8} {c : Clm} (h : readP s key = .ok c) : RightC c := by
  unfold readP at h
  split at h
  · cases h
  split at h
  · cases h
  split at h
  · cases h
  split at h
  · cases h
  split at h
  · cases h
  · rename_i hc
    injection h with h
    subst h
    exact (of_some hc).1
def clX : Except Int Clm → Clm
  | .ok c => c
  | .error _ => clm0
def nX : Except Int Clm → Int
  | .ok _ => 0
  | .error x => x
theorem rcl {X : Except Int Clm} {e : SE} (h : RCl X e) : e = .ret (.tu [.ag (csC (clX X)), .ce (.val (.int .i64 (nX X)))]) := by
  cases X with
  | ok c => exact h
  | error x => exact h
theorem fitX {s : ByteArray} {key : List UInt8} : FitC (clX (readP s key)) := by
  cases h : readP s key with
  | ok c => exact fit_right (read_right h)
  | error x => exact fit0
theorem eqClm {o : Oper} {x y : Operand} (ho : o.op = .binOp .eql 25 x y 25) {F : Fr} {H : Hp} {G : List SB} {K : SV → Prop} (c d : Clm)
    (hx : evX x F fun sv => sv = .si (.ag ((cellsC c).map SC.val))) (hy : evX y F fun sv => sv = .si (.ag ((cellsC d).map SC.val))) (fc : FitC c) (fd : FitC d) (h : ∀ r : Bool, (r = true ↔ c = d) → K (pv (.bool r))) : QO Tryz.prog o F H G K :=
  QO.agg ho (cellsC c) (cellsC d) ksC hx hy gC kC sC (fC _) (fC _) fc.lits fd.lits fun r hr => .inl ⟨rfl, h r (hr.trans cellsC_inj)⟩
end Go.Kx.L13
namespace Go.Kx.L13
open Go.Proofs Go.Kx Go.RowKit Go.Kx.Js Go.Kx.Pr Go.Kx.Rt Go.Kx.Ob Go.Kx.Wo Go.Kx.Cl Go.Kx.Su Go.Kx.Se Go.Kx.Jw
set_option maxRecDepth 20000
set_option linter.unusedSimpArgs false
namespace Li
def T : Tab := [(9, { k := TK.string, agg := false, size := 1, bytes := 16, zero := [Z.s] }), (3, { k := TK.int IntKind.i64, agg := false, size := 1, bytes := 8, zero := [Z.i IntKind.i64] }), (25, { k := TK.st [(0, 9, 1), (1, 9, 1), (2, 9, 1), (3, 3, 1), (4, 9, 1), (5, 23, 3), (8, 3, 1), (9, 9, 1)], agg := true, size := 10, bytes := 144, zero := [Z.s, Z.s, Z.s, Z.i IntKind.i64, Z.s, Z.s, Z.s, Z.s, Z.i IntKind.i64, Z.s] }), (28, { k := TK.st [(0, 9, 1), (1, 9, 1), (2, 9, 1), (3, 3, 1), (4, 9, 1), (5, 9, 1), (6, 9, 1), (7, 9, 1), (8, 3, 1), (9, 9, 1)], agg := true, size := 10, bytes := 144, zero := [Z.s, Z.s, Z.s, Z.i IntKind.i64, Z.s, Z.s, Z.s, Z.s, Z.i IntKind.i64, Z.s] }), (23, { k := TK.st [(0, 9, 1), (1, 9, 1), (2, 9, 1)], agg := true, size := 3, bytes := 48, zero := [Z.s, Z.s, Z.s] }), (4, { k := TK.bool, agg := false, size := 1, bytes := 1, zero := [Z.b] }), (69, { k := TK.slice 9, agg := false, size := 1, bytes := 24, zero := [Z.sl] })]
set_option maxRecDepth 100000 in
theorem tab : TabOk Tryz.prog T := tabOk_mk (ts := [9, 3, 25, 28, 23, 4, 69]) (by kernel_rfl)
end Li
def szs (c : Clm) : List ByteArray := [c.jti, c.aud, c.txn, c.sub.fmt, c.sub.id, c.sub.own, c.reason]
theorem listed0 (c : Clm) (H : Hp) : CallO Tryz.prog 13 [agC c] H [] fun e H' G' => (∃ b : Bool, e = .ret (.tu [.ag (csC c), .ce (.val (.bool b))]) ∧ (b = true → c.iss.size ≤ 300 ∧ ∀ s ∈ szs c, s.size ≤ 300)) ∧ H.Le H' ∧ G' = [] := by
  refine CallO.of_body Li.tab Tryz.func13 rfl (nt := Tryz.f13.ntmps) rfl (by kernel_rfl) ?_
  (conv => whnf)
  refine ⟨by decide, .inl ?_⟩
  intro g H2 hle hrd
  have hv : Pa.VAt H2 (some { block := g, off := 0 }) 7 ((szs c).map Value.string) := ⟨rfl, fun e => (nomatch e), fun a e => by injection e with e; subst e; exact hrd⟩
  (conv => whnf)
  refine WS.loop (fun k F H3 G => ∃ (j : Nat) (m : Int), j ≤ 7 ∧ (c.iss.size : Int) ≤ m ∧ (∀ i s, i < j → (szs c)[i]? = some s → (s.size : Int) ≤ m) ∧ k = 7 - j ∧ F = [(1, .si (.ce (.ptr 0 0))), (2, .si (.ce (.ptr 1 0))), (4, pv (.int .i64 m)), (27, pv (.slice (some { block := g, off := 0 }) 7 7)), (28, pv (.int .i64 7)), (29, pv (.int .i64 j))] ∧ H2.Le H3 ∧ G = [.box 25 (csC c), .box 28 (csC clm0)]) 8 ?_ ?_
  · refine ⟨7, by omega, _, _, [0, 1], ⟨0, c.iss.size, by omega, Int.le_refl _, fun i s hi => absurd hi (by omega), rfl, rfl, .refl _, rfl⟩, ?_⟩
    exact ⟨rfl, ⟨rfl, rfl, trivial⟩, rfl, rfl, rfl, rfl, rfl, rfl, trivial⟩
  rintro k F H3 G hle3 ⟨j, m, hj, hm, hs, rfl, rfl, hle4, rfl⟩
  refine codeL.go Li.tab ?_
  (conv => whnf)
  refine br.of (fun h1 => ?_) (fun h1 => ?_) <;> (conv => whnf)
  · have h1 := of_decide_eq_true h1
    obtain ⟨s, hsj⟩ : ∃ s, (szs c)[j]? = some s := ⟨_, List.getElem?_eq_getElem (by show j < 7; omega)⟩
    refine ⟨⟨by omega, by omega⟩, hv.addr (by decide), ?_⟩
    (conv => whnf)
    refine ⟨_, (hv.mono hle4).get (show ((szs c).map Value.string)[j]? = some (.string s) by rw [List.getElem?_map, hsj]; rfl) (by show (j : Int).toNat * 1 = j; omega), ?_⟩
    (conv => whnf)
    rw [wrap64 (x := (j : Int) + 1) (by omega) (by omega)]
    refine ⟨7 - (j + 1), by omega, _, _, [0, 1], ⟨j + 1, maxB m s.size, by omega, ?_, fun i u hi hu => ?_, rfl, rfl, hle4, rfl⟩, ?_⟩
    · unfold maxB; split <;> omega
    · rcases Nat.lt_or_ge i j with hij | hij
      · have := hs i u hij hu
        unfold maxB; split <;> omega
      · obtain rfl : i = j := by omega
        rw [hsj] at hu
        injection hu with hu
        subst hu
        unfold maxB; split <;> omega
    · exact ⟨rfl, ⟨rfl, rfl, trivial⟩, rfl, rfl, rfl, rfl, rfl, rfl, trivial⟩
  · have h1 := of_decide_eq_false h1
    obtain rfl : j = 7 := by omega
    refine ⟨⟨_, rfl, fun hb => ?_⟩, hle.trans hle4, rfl⟩
    have hb : m ≤ 300 := of_decide_eq_true hb
    refine ⟨by omega, fun s hs' => ?_⟩
    obtain ⟨i, hi, rfl⟩ := List.getElem_of_mem hs'
    have := hs i _ hi (List.getElem?_eq_getElem hi)
    omega
end Go.Kx.L13
namespace Go.Kx.L13
open Go.Proofs Go.Kx Go.RowKit Go.Kx.Js Go.Kx.Pr Go.Kx.Rt Go.Kx.Ob Go.Kx.Wo Go.Kx.Cl Go.Kx.Su Go.Kx.Se Go.Kx.Jw
set_option maxRecDepth 20000
set_option linter.unusedSimpArgs false
namespace St
def T : Tab := [(9, { k := TK.string, agg := false, size := 1, bytes := 16, zero := [Z.s] }), (3, { k := TK.int IntKind.i64, agg := false, size := 1, bytes := 8, zero := [Z.i IntKind.i64] }), (25, { k := TK.st [(0, 9, 1), (1, 9, 1), (2, 9, 1), (3, 3, 1), (4, 9, 1), (5, 23, 3), (8, 3, 1), (9, 9, 1)], agg := true, size := 10, bytes := 144, zero := [Z.s, Z.s, Z.s, Z.i IntKind.i64, Z.s, Z.s, Z.s, Z.s, Z.i IntKind.i64, Z.s] }), (28, { k := TK.st [(0, 9, 1), (1, 9, 1), (2, 9, 1), (3, 3, 1), (4, 9, 1), (5, 9, 1), (6, 9, 1), (7, 9, 1), (8, 3, 1), (9, 9, 1)], agg := true, size := 10, bytes := 144, zero := [Z.s, Z.s, Z.s, Z.i IntKind.i64, Z.s, Z.s, Z.s, Z.s, Z.i IntKind.i64, Z.s] }), (23, { k := TK.st [(0, 9, 1), (1, 9, 1), (2, 9, 1)], agg := true, size := 3, bytes := 48, zero := [Z.s, Z.s, Z.s] }), (63, { k := TK.st [(0, 9, 1), (1, 9, 1)], agg := true, size := 2, bytes := 32, zero := [Z.s, Z.s] }), (5, { k := TK.int IntKind.u8, agg := false, size := 1, bytes := 1, zero := [Z.i IntKind.u8] }), (55, { k := TK.slice 5, agg := false, size := 1, bytes := 24, zero := [Z.sl] }), (4, { k := TK.bool, agg := false, size := 1, bytes := 1, zero := [Z.b] }), (35, { k := TK.int IntKind.i64, agg := false, size := 1, bytes := 8, zero := [Z.i IntKind.i64] }), (69, { k := TK.slice 9, agg := false, size := 1, bytes := 24, zero := [Z.sl] })]
set_option maxRecDepth 100000 in
theorem tab : TabOk Tryz.prog T := tabOk_mk (ts := [9, 3, 25, 28, 23, 63, 5, 55, 4, 35, 69]) (by kernel_rfl)
end St
theorem tok_read {typ : ByteArray} {pl key : List UInt8} {kid s : ByteArray} (h : signP kid typ pl key = (s, 0)) : (typ ≠ sType → readP s key = .error 42) ∧ (typ = sType → readP s key = .error 10 ∨ ∃ c, readP s key = .ok c ∧ RightC c ∧ wrJ (clJ c) = pl) := by
  have hv := sign_verify h
  unfold readP
  rw [hv]
  refine ⟨fun ht => if_pos ht, fun ht => ?_⟩
  dsimp only
  rw [if_neg (by simpa using ht)]
  split
  · exact .inl rfl
  rename_i h1
  split
  · exact .inl rfl
  rename_i h2
  cases ho : ofP (parseP pl 4).1 with
  | none => exact .inl rfl
  | some c =>
    refine .inr ⟨c, rfl, (of_some ho).1, ?_⟩
    have hs := (of_some ho).2
    unfold sameP at hs
    simp only [Bool.and_eq_true, beq_iff_eq] at hs
    simp only [ne_eq, Decidable.not_not] at h2
    unfold printP at h2
    rw [if_pos hs.1.2] at h2
    rw [hs.2]
    have := congrArg (fun s : ByteArray => s.data.toList) h2
    simpa using this
theorem right_fitT {c : Clm} (h : RightC c) : Rf.FitT c := by
  have w : ∀ {s : ByteArray}, Wo.wordP 256 s = true → s.size ≤ 1000 := fun hw => Nat.le_trans (word_size hw).1 (by decide)
  have hs : c.sub.fmt.size ≤ 1000 ∧ c.sub.id.size ≤ 1000 ∧ c.sub.own.size ≤ 1000 := by
    rcases sub_cases h.sub with ⟨id, e, h1⟩ | ⟨id, e, h1, h2⟩ | ⟨id, own, e, h1, h2⟩
    · rw [e]; exact ⟨(by decide : sOpaque.size ≤ 1000), w h1, Nat.zero_le _⟩
    · rw [e]; exact ⟨(by decide : sEmail.size ≤ 1000), w h1, Nat.zero_le _⟩
    · rw [e]; exact ⟨(by decide : sIssSub.size ≤ 1000), w h1, w h2⟩
  refine ⟨w h.iss, w h.jti, w h.aud, w h.txn, hs.1, hs.2.1, hs.2.2, ?_⟩
  rcases h.reason with e | e
  · rw [e]; exact Nat.zero_le _
  · exact w e
theorem setTokens (typ : ByteArray) (pl : List UInt8) (A : Option Addr) (cap : Nat) (H : Hp) (hE : ErrH H) (hb : BytesZ H A pl.length pl) : CallO Tryz.prog 7 [pv (.string typ), pv (.slice A pl.length cap)] H [] fun e _ _ => e = .ret (pv (.bool true)) := by
  refine CallO.of_body St.tab Tryz.func7 rfl (nt := Tryz.f7.ntmps) rfl (by kernel_rfl) ?_
  (conv => whnf)
  refine ⟨⟨_, Tryz.func12, rfl, by kernel_rfl⟩, CallS.use (anchor_ H hE) [] rfl rfl trivial ?_⟩
  rintro e H2 G' hle2 ⟨rfl, _, rfl⟩
  (conv => whnf)
  cases g1 : decide ((pl.length : Int) > 1500) <;> (conv => whnf)
  rotate_left
  · rfl
  have g1 := of_decide_eq_false g1
  refine br.of (fun g2 => ?_) (fun g2 => ?_) <;> (conv => whnf)
  · rfl
  have g2 := of_decide_eq_false g2
  refine ⟨by decide, .inr ?_⟩
  refine ⟨rfl, ?_⟩
  (conv => whnf)
  change LO _ _ _ _ _ _ _
  refine LO.convOwn (t := 55) (e := 5) (et := 5) (x := .tmp 22) (n := 16) (xs := bCells keyL) ?_ 0 ?_ ?_ (by decide) (by kernel_rfl) (by kernel_rfl) ?_
  · rfl
  · rfl
  · rfl
  intro g c2 H3 hle3 hkr
  (conv => whnf)
  have hkb : BytesAt H3 (some g) 16 keyL := .lit rfl hkr
  have hs := Jw.signZ_ ⟨#[107]⟩ typ pl keyL A cap (some g) c2 (by omega) (by decide) H3 (hb.mono (hle2.trans hle3)) hkb.z
  obtain ⟨⟨tok, ec⟩, hte⟩ : ∃ x, signP ⟨#[107]⟩ typ pl keyL = x := ⟨_, rfl⟩
  have hkl : keyL.length = 16 := rfl
  rw [hte, hkl] at hs
  refine ⟨⟨_, Tryz.func27, rfl, by kernel_rfl⟩, CallS.use hs [] rfl rfl trivial ?_⟩
  rintro e H4 G' hle4 ⟨rfl, hle4', rfl⟩
  (conv => whnf)
  refine br.of (fun g3 => ?_) (fun g3 => ?_) <;> (conv => whnf)
  · rfl
  have g3 : ec = 0 := by simpa using g3
  subst g3
  obtain ⟨r1, r2⟩ := tok_read hte
  have hr := read_ tok (by have := sign_size hte; omega) keyL (some g) 16 c2 (by decide) H4 (hE.mono ((hle2.trans hle3).trans hle4)) (hkb.mono hle4)
  generalize hX : readP tok keyL = X at hr r1 r2
  refine ⟨⟨_, Tryz.func26, rfl, by kernel_rfl⟩, CallS.use hr [] rfl rfl trivial ?_⟩
  rintro e H5 G' hle5 ⟨hR, hle5', rfl⟩
  obtain rfl := rcl hR
  (conv => whnf)
  cases hty : strEq typ sType
  · obtain rfl := r1 ((strEq_false ..).1 hty)
    (conv => whnf)
    change QO _ _ _ _ _ _
    refine eqClm (x := .tmp 45) (y := .tmp 46) ?_ clm0 clm0 ?_ ?_ fit0 fit0 ?_
    · rfl
    · rfl
    · rfl
    intro r hr
    obtain rfl : r = true := hr.2 rfl
    (conv => whnf)
    rfl
  rcases r2 ((strEq_iff ..).1 hty) with rfl | ⟨c, rfl, hc, hpl⟩
  · (conv => whnf)
    change QO _ _ _ _ _ _
    refine eqClm (x := .tmp 54) (y := .tmp 55) ?_ clm0 clm0 ?_ ?_ fit0 fit0 ?_
    · rfl
    · rfl
    · rfl
    intro r hr
    obtain rfl : r = true := hr.2 rfl
    (conv => whnf)
    rfl
  (conv => whnf)
  refine ⟨⟨_, Tryz.func13, rfl, by kernel_rfl⟩, CallS.use (listed0 c H5) [] rfl rfl trivial ?_⟩
  rintro e H6 G' hle6 ⟨⟨b, rfl, -⟩, hle6', rfl⟩
  (conv => whnf)
  refine WS.draw St.tab L13.mixed (.take 0 (.alt 1 (.take 2 (.take 3 (.take 5 (.take 6 (.alt 4 (.take 7 (.take 8 (.take 9 .done))) .no))))) .no)) (by kernel_rfl) [] ?_
  (conv => whnf)
  refine And.intro ?_ ?_ <;> (conv => whnf)
  rotate_left
  · exact trivial
  refine ⟨⟨_, Tryz.func16, rfl, by kernel_rfl⟩, CallS.use (Rf.right13 c.iss c.jti c.aud c.iat c.txn c.sub.fmt c.sub.id c.sub.own c.kind c.reason (right_fitT hc) H6) [] rfl rfl trivial ?_⟩
  rintro e H7 G' hle7 ⟨rfl, hle7', rfl⟩
  rw [show clRight ⟨c.iss, c.jti, c.aud, c.iat, c.txn, ⟨c.sub.fmt, c.sub.id, c.sub.own⟩, c.kind, c.reason⟩ = true from (right_iff c).2 hc]
  (conv => whnf)
  refine ⟨⟨trivial, rfl, rfl, trivial⟩, ?_⟩
  (conv => whnf)
  have hb6 := hb.mono (((((hle2.trans hle3).trans hle4).trans hle5).trans hle6))
  cases A with
  | none =>
    obtain rfl : pl = [] := hb.2.1 rfl
    (conv => whnf)
    refine And.intro ?_ ?_ <;> (conv => whnf)
    rotate_left
    · exact trivial
    refine ⟨⟨_, Tryz.func19, rfl, by kernel_rfl⟩, CallS.use (Rf.text_ c hc _) [] rfl rfl trivial ?_⟩
    rintro e H8 G' hle8 ⟨rfl, hle8', rfl⟩
    rw [hpl]
    (conv => whnf)
    refine ⟨⟨trivial, rfl, rfl, trivial⟩, ?_⟩
    (conv => whnf)
    rw [show strEq (⟨([] : List UInt8).toArray⟩ : ByteArray) ⟨#[]⟩ = true from rfl]
    rfl
  | some a =>
    (conv => whnf)
    refine ⟨strOf pl, strOf_size _, by rw [← cells_str]; exact hb6.2.2 a rfl, ?_⟩
    (conv => whnf)
    refine And.intro ?_ ?_ <;> (conv => whnf)
    rotate_left
    · exact trivial
    refine ⟨⟨_, Tryz.func19, rfl, by kernel_rfl⟩, CallS.use (Rf.text_ c hc _) [] rfl rfl trivial ?_⟩
    rintro e H8 G' hle8 ⟨rfl, hle8', rfl⟩
    rw [hpl]
    (conv => whnf)
    refine ⟨⟨trivial, rfl, rfl, trivial⟩, ?_⟩
    (conv => whnf)
    rw [show strEq (⟨pl.toArray⟩ : ByteArray) (strOf pl) = true from str_refl _]
    rfl
end Go.Kx.L13
