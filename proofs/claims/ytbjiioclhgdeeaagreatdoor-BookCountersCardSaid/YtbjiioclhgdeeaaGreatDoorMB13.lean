/- Values of several cells compared; a row of one's own converted to its own type. Generic in the program; no condition of its own. -/
import Derived.Test.YtbjiioclhgdeeaaGreatDoorMB12
import Derived.DeepKeys
import Derived.Laws.StructEq
import Derived.Lib.SlBytesConst
import Derived.Test.YtbjiioclhgdeeaaGreatDoorProg
namespace Go.Kx
open Go.RowKit
section
variable {P : Program}
inductive CK
 | b | s
 | i (k : IntKind)
def ckLit : CK → Value → Option Lit
 | .b, .bool x => some (.bool x)
 | .s, .string s => if s.size ≤ maxLen then some (.string s.data.toList) else none
 | .i k, .int k' n => if k' = k ∧ (Lit.int k n).wf = true then some (.int k n) else none
 | _, _ => none
def litsK : List CK → List Value → Option (List Lit)
 | [], [] => some []
 | c :: cs, v :: vs => (ckLit c v).bind fun l => (litsK cs vs).map fun r => l :: r
 | _, _ => none
def shapeFs (P : Program) (sh : TypeId → Option (List CK)) : List Field → Nat → Option (List CK)
 | [], _ => some []
 | f :: fs, off => if Nat.beq f.offset off then (sh f.type).bind fun ks => if Nat.beq ks.length (P.cellsOf f.type) then (shapeFs P sh fs (off + ks.length)).map fun r => ks ++ r else none else none
def shapeK (P : Program) : Nat → TypeId → Option (List CK)
 | 0, _ => none
 | d + 1, t => match P.underlying t with
  | some .bool => some [.b]
  | some (.int k) => some [.i k]
  | some .string => some [.s]
  | some (.struct fs) => if fs.all (·.name != "_") then (shapeFs P (shapeK P d) fs.toList 0).bind fun ks => if Nat.beq ks.length (P.cellsOf t) then some ks else none else none
  | _ => none
theorem litsK_len : ∀ {ks : List CK} {vs : List Value} {la : List Lit}, litsK ks vs = some la → vs.length = ks.length
 | [], [], _, _ => rfl
 | [], _ :: _, _, h => by simp [litsK] at h
 | _ :: _, [], _, h => by simp [litsK] at h
 | c :: cs, v :: vs, la, h => by
  unfold litsK at h
  simp only [Option.bind_eq_some_iff, Option.map_eq_some_iff] at h
  obtain ⟨l, _, r, h2, _⟩ := h
  simp [litsK_len h2]
theorem litsK_split : ∀ {k1 k2 : List CK} {vs : List Value} {la : List Lit}, litsK (k1 ++ k2) vs = some la → ∃ l1 l2, litsK k1 (vs.take k1.length) = some l1 ∧ litsK k2 (vs.drop k1.length) = some l2 ∧ la = l1 ++ l2
 | [], k2, vs, la, h => ⟨[], la, by simp [litsK], by simpa using h, rfl⟩
 | c :: k1, k2, [], la, h => by simp [litsK] at h
 | c :: k1, k2, v :: vs, la, h => by
  simp only [List.cons_append, litsK, Option.bind_eq_some_iff, Option.map_eq_some_iff] at h
  obtain ⟨l, h1, r, h2, rfl⟩ := h
  obtain ⟨l1, l2, h3, h4, rfl⟩ := litsK_split h2
  refine ⟨l :: l1, l2, ?_, by simpa using h4, rfl⟩
  simp [litsK, h1, h3]
theorem bytes_ext {a b : ByteArray} (h : a.data.toList = b.data.toList) : a = b := by
 have := Array.toList_inj.1 h
 cases a; cases b; simpa using this
theorem ckLit_inj {c : CK} {u v : Value} {l : Lit} (h1 : ckLit c u = some l) (h2 : ckLit c v = some l) : u = v := by
 cases c <;> cases u <;> simp only [ckLit] at h1 <;> first | (cases h1; done) | skip
 all_goals cases v <;> simp only [ckLit] at h2 <;> first | (cases h2; done) | skip
 ·injection h1 with h1; injection h2 with h2; rw [← h1] at h2; injection h2 with h2; rw [h2]
 ·split at h1
  ·split at h2
   ·injection h1 with h1; injection h2 with h2
    rw [← h1] at h2
    injection h2 with h2
    exact congrArg Value.string (bytes_ext h2.symm)
   ·cases h2
  ·cases h1
 ·split at h1
  ·rename_i e1
   split at h2
   ·rename_i e2
    injection h1 with h1; injection h2 with h2
    rw [← h1] at h2
    injection h2 with _ h2
    rw [e1.1, e2.1, h2]
   ·cases h2
  ·cases h1
theorem litsK_inj : ∀ {ks : List CK} {us vs : List Value} {l : List Lit}, litsK ks us = some l → litsK ks vs = some l → us = vs
 | [], [], [], _, _, _ => rfl
 | [], _ :: _, _, _, h, _ => by simp [litsK] at h
 | [], [], _ :: _, _, _, h => by simp [litsK] at h
 | _ :: _, [], _, _, h, _ => by simp [litsK] at h
 | _ :: _, _ :: _, [], _, _, h => by simp [litsK] at h
 | c :: ks, u :: us, v :: vs, l, h1, h2 => by
  simp only [litsK, Option.bind_eq_some_iff, Option.map_eq_some_iff] at h1 h2
  obtain ⟨a, a1, r, a2, rfl⟩ := h1
  obtain ⟨b, b1, r2, b2, h⟩ := h2
  injection h with h3 h4
  subst h3 h4
  rw [ckLit_inj a1 b1, litsK_inj a2 b2]
theorem shapeFs_lits {sh : TypeId → Option (List CK)} {kl : TypeId → List Value → Option (List Lit)} (hsh : ∀ t ks vs la, sh t = some ks → litsK ks vs = some la → kl t vs = some la) (cs : List Value) : ∀ (fs : List Field) (off : Nat) (ks : List CK) (la : List Lit), shapeFs P sh fs off = some ks → litsK ks (cs.drop off) = some la →
  ∃ al, (fs.mapM fun f => kl f.type ((cs.drop f.offset).take (P.cellsOf f.type))) = some al ∧ al.flatten = la
 | [], off, ks, la, h1, h2 => by
  simp only [shapeFs, Option.some.injEq] at h1
  subst h1
  refine ⟨[], by simp, ?_⟩
  cases hd : cs.drop off with
  | nil => rw [hd] at h2; simp only [litsK, Option.some.injEq] at h2; rw [← h2]; rfl
  | cons a r => rw [hd] at h2; simp [litsK] at h2
 | f :: fs, off, ks, la, h1, h2 => by
  unfold shapeFs at h1
  split at h1
  ·rename_i ho
   have ho := Nat.eq_of_beq_eq_true ho
   simp only [Option.bind_eq_some_iff] at h1
   obtain ⟨k1, hk1, h1⟩ := h1
   split at h1
   ·rename_i hl
    have hl := Nat.eq_of_beq_eq_true hl
    simp only [Option.map_eq_some_iff] at h1
    obtain ⟨k2, hk2, rfl⟩ := h1
    obtain ⟨l1, l2, h3, h4, rfl⟩ := litsK_split h2
    rw [List.drop_drop] at h4
    obtain ⟨al, ha, hf⟩ := shapeFs_lits hsh cs fs (off + k1.length) k2 l2 hk2 h4
    have h5 := hsh f.type k1 _ l1 hk1 h3
    rw [hl, ← ho] at h5
    refine ⟨l1 :: al, ?_, by simp [hf]⟩
    rw [List.mapM_cons, h5, ha]
    rfl
   ·cases h1
  ·cases h1
theorem shapeK_lits : ∀ (d : Nat) (t : TypeId) (ks : List CK) (vs : List Value) (la : List Lit), shapeK P d t = some ks → litsK ks vs = some la → P.keyLits d t vs = some la
 | 0, _, _, _, _, h, _ => by simp [shapeK] at h
 | d + 1, t, ks, vs, la, h, h2 => by
  unfold shapeK at h
  split at h
  ·rename_i hu
   injection h with h; subst h
   have hl := litsK_len h2
   match vs, hl with
   | [v], _ =>
    cases v <;> simp [litsK, ckLit] at h2
    simp [Program.keyLits, hu, h2]
  ·rename_i k hu
   injection h with h; subst h
   have hl := litsK_len h2
   match vs, hl with
   | [v], _ =>
    cases v with
    | int k' n =>
     by_cases hc : k' = k ∧ (Lit.int k n).wf = true
     ·simp only [litsK, ckLit, if_pos hc, Option.bind_some, Option.map_some] at h2
      unfold Program.keyLits
      rw [hu]
      simp only []
      rw [if_pos hc]; exact h2
     ·simp [litsK, ckLit, if_neg hc] at h2
    | _ => simp [litsK, ckLit] at h2
  ·rename_i hu
   injection h with h; subst h
   have hl := litsK_len h2
   match vs, hl with
   | [v], _ =>
    cases v with
    | string s =>
     by_cases hc : s.size ≤ maxLen
     ·simp only [litsK, ckLit, if_pos hc, Option.bind_some, Option.map_some] at h2
      unfold Program.keyLits
      rw [hu]
      simp only []
      rw [if_pos hc]; exact h2
     ·simp [litsK, ckLit, if_neg hc] at h2
    | _ => simp [litsK, ckLit] at h2
  ·rename_i fs hu
   split at h
   ·rename_i hn
    simp only [Option.bind_eq_some_iff] at h
    obtain ⟨ks', hk, h⟩ := h
    split at h
    ·rename_i hl
     have hl := Nat.eq_of_beq_eq_true hl
     injection h with h; subst h
     have hlen := litsK_len h2
     obtain ⟨al, ha, hf⟩ := shapeFs_lits (P := P) (kl := P.keyLits d) (fun t ks vs la a b => shapeK_lits d t ks vs la a b) vs fs.toList 0 ks' la hk (by simpa using h2)
     unfold Program.keyLits
     rw [hu]
     simp only []
     rw [if_pos ⟨by omega, hn⟩, ha]
     simp [hf]
    ·cases h
   ·cases h
  ·cases h
theorem QO.agg {o : Oper} {op : BinOp} {t ty : TypeId} {x y : Operand} (ho : o.op = .binOp op t x y ty) {F : Fr} {H : Hp} {G : List SB} {K : SV → Prop} (xs ys : List Value) (ks : List CK)
  (hx : evX x F fun sv => sv = .si (.ag (xs.map SC.val))) (hy : evX y F fun sv => sv = .si (.ag (ys.map SC.val)))
  (hg : P.eqGuardType P.depth t = false) (hk : P.keyTypeAt 8 t = true) (hs : shapeK P 8 t = some ks) (fx : (Value.agg xs.toArray).formed P t = true) (fy : (Value.agg ys.toArray).formed P t = true)
  (lx : (litsK ks xs).isSome = true) (ly : (litsK ks ys).isSome = true)
  (h : ∀ r : Bool, (r = true ↔ xs = ys) → (op = .eql ∧ K (pv (.bool r))) ∨ (op = .neq ∧ K (pv (.bool (!r))))) : QO P o F H G K := by
 obtain ⟨sx, rfl, hxv⟩ := evX_ok hx
 obtain ⟨sy, rfl, hyv⟩ := evX_ok hy
 obtain ⟨la, hla⟩ := Option.isSome_iff_exists.1 lx
 obtain ⟨lb, hlb⟩ := Option.isSome_iff_exists.1 ly
 have ka := shapeK_lits 8 t ks xs la hs hla
 have kb := shapeK_lits 8 t ks ys lb hs hlb
 have hall : ∀ (zs : List Value) ρ us, All2 (SC.Is ρ) (zs.map SC.val) us → us = zs := by
  intro zs
  induction zs with
  | nil => intro ρ us hu; cases hu; rfl
  | cons z zs ih => intro ρ us hu; cases hu with | cons h1 h2 => rw [ih ρ _ h2]; obtain rfl := h1; rfl
 have hval : ∀ (zs : List Value) ρ v, SV.Is ρ (.si (.ag (zs.map SC.val))) v → v = .agg zs.toArray := by
  rintro zs ρ v ⟨us, rfl, hu⟩
  rw [hall zs ρ us hu]
 have hr : ∀ w : World, ∃ r : Bool, (Op.equalIn 10000 t (.agg xs.toArray) (.agg ys.toArray)).run P w = .ok r w ∧ (r = true ↔ la = lb) := fun w =>
  run_equalIn_deep 9992 8 t hk w 8 8 _ _ la lb fx fy (by simpa [Value.cells] using ka) (by simpa [Value.cells] using kb)
 have hiff : la = lb ↔ xs = ys := ⟨fun e => litsK_inj hla (by rw [e]; exact hlb), fun e => by subst e; rw [hla] at hlb; injection hlb⟩
 have hone : ∀ w w' : World, ∀ r r' : Bool, (r = true ↔ la = lb) → (r' = true ↔ la = lb) → r = r' := fun w w' r r' h1 h2 => by
  cases r <;> cases r' <;> simp_all
 have hb : ∃ b : Bool, (b = true ↔ la = lb) := by
  by_cases e : la = lb
  ·exact ⟨true, by simp [e]⟩
  ·exact ⟨false, by simp [e]⟩
 obtain ⟨b, hb⟩ := hb
 rcases h b (hb.trans hiff) with ⟨rfl, hK⟩ | ⟨rfl, hK⟩
 ·refine ⟨_, hK, fun ρ a wc hf hw => ⟨_, rfl, fun w _ => ?_⟩⟩
  have e1 := hval xs ρ _ (hxv ρ a hf)
  have e2 := hval ys ρ _ (hyv ρ a hf)
  obtain ⟨r, hr1, hr2⟩ := hr w
  obtain rfl := hone w w r b hr2 hb
  have e : execOp a.eval o = (do pure (.value (← ((do eqGuard .eql t x y (a.eval x) (a.eval y); binOp .eql t (a.eval x) (a.eval y)) : Sem Value)))) := by simp only [execOp, ho]
  rw [e, e1, e2]
  simp only [Sem.run_bind, run_eqGuard_agg w .eql t x y _ _ hg, Result.andThen_ok, run_eql_struct, hr1, Sem.run_pure]
 ·refine ⟨_, hK, fun ρ a wc hf hw => ⟨_, rfl, fun w _ => ?_⟩⟩
  have e1 := hval xs ρ _ (hxv ρ a hf)
  have e2 := hval ys ρ _ (hyv ρ a hf)
  obtain ⟨r, hr1, hr2⟩ := hr w
  obtain rfl := hone w w r b hr2 hb
  have e : execOp a.eval o = (do pure (.value (← ((do eqGuard .neq t x y (a.eval x) (a.eval y); binOp .neq t (a.eval x) (a.eval y)) : Sem Value)))) := by simp only [execOp, ho]
  rw [e, e1, e2]
  simp only [Sem.run_bind, run_eqGuard_agg w .neq t x y _ _ hg, Result.andThen_ok, run_neq_struct, hr1, Sem.run_pure]
theorem freeze_cells {w : World} {g : Nat} {cur : Array Value} {et : TypeId} {z : Nat × Nat} (hg : w.heap[g]? = some (.cells cur et z)) (n m : Nat) :
  (w.freeze ⟨g, n, none⟩ m).os = w.os ∧ (w.freeze ⟨g, n, none⟩ m).tape = w.tape ∧ (w.freeze ⟨g, n, none⟩ m).output = w.output ∧ (w.freeze ⟨g, n, none⟩ m).heap.size = w.heap.size ∧ (∀ b, b ≠ g → (w.freeze ⟨g, n, none⟩ m).heap[b]? = w.heap[b]?) ∧ ∃ z', (w.freeze ⟨g, n, none⟩ m).heap[g]? = some (.cells cur et z') := by
 unfold World.freeze
 split
 ·exact ⟨rfl, rfl, rfl, rfl, fun _ _ => rfl, _, hg⟩
 ·refine ⟨rfl, rfl, rfl, by simp, fun b hb => ?_, ?_⟩
  ·simp [Array.getElem?_modify, Ne.symm hb]
  ·obtain ⟨lo, hi⟩ := z
   simp [Array.getElem?_modify, hg]
theorem run_convert_own {w : World} {t e et : TypeId} {g o n cap : Nat} {cur : Array Value} {z : Nat × Nat} (ht : P.underlying t = some (.slice e)) (he : P.underlying e = some (.int .u8)) (hg : w.heap[g]? = some (.cells cur et z)) :
  (convert t t (.slice (some ⟨g, o, none⟩) n cap)).run P w = .ok (.slice (some ⟨g, o, none⟩) n cap) (w.freeze ⟨g, cur.size, none⟩ 1) := by
 have hsh : w.shape? g = some (et, cur.size) := by
  unfold World.shape?
  rw [hg]
 simp [convert, run_underlying ht, run_underlying he, markStringish, hsh]
theorem LO.convOwn {o : Oper} {t e et : TypeId} {x : Operand} (ho : o.op = .convert t t x) {F : Fr} {H : Hp} {G : List SB} {K : SV → Hp → List SB → Prop} {Kp : List PanicEntry → Hp → List SB → Prop} (k : Nat) {n : Nat} {xs : List Value}
  (hx : evX x F fun sv => sv = .si (.ce (.self k))) (hk : G[k]? = some (.row et 1 n xs)) (hn : 0 < n) (ht : P.underlying t = some (.slice e)) (he : P.underlying e = some (.int .u8))
  (h : ∀ a c H', H.Le H' → RdN H' (some a) 0 xs → K (pv (.slice (some a) n c)) H' (G.set k .dead)) : LO P o F H G K Kp := by
 intro w0 M hgd H0 ρ a w hs hf
 obtain ⟨sx, rfl, hxv⟩ := evX_ok hx
 have hv : ρ[k]? = some (a.eval x) := hxv ρ a hf
 obtain ⟨r, hr, hok⟩ := hs.at hk
 obtain rfl : r = a.eval x := by rw [hr] at hv; injection hv
 rcases hok.2 with ⟨_, h0⟩ | ⟨g, off, cap, cur, hre, hg, hnc, hcm, hcs, htk⟩
 ·omega
 have hblk : blkAt ρ G k = some g := by rw [blkAt_eq hk hr, hre]; rfl
 obtain ⟨f1, f2, f3, f4, f5, z', f6⟩ := freeze_cells hg cur.size 1
 generalize hw' : w.freeze ⟨g, cur.size, none⟩ 1 = w' at *
 have hrun : (execOp a.eval o).run P w = .ok (.value (.slice (some ⟨g, off, none⟩) n cap)) w' := by
  have := run_convert_own (n := n) (cap := cap) (o := off) ht he hg
  rw [hw'] at this
  simp [execOp, ho, hre, this]
 have hout : H.Out g := (hs.own k g hblk).2
 have hst : St w0 M H0 ρ H (G.set k .dead) w' := hs.turn hk hr (g := g) (by rw [hre]; rfl) f1 f2 f3 (by omega) (fun b _ hb => f5 b hb) trivial (.inr rfl)
 have hnk : ∀ j y, blkAt ρ (G.set k .dead) j = some y → y ≠ g := fun j y hj e => by
  subst e
  obtain ⟨s1, r1, h1, h2, h3⟩ := blkAt_some hj
  have hkl := (List.getElem?_eq_some_iff.1 hk).1
  by_cases hjk : k = j
  ·subst hjk
   rw [List.getElem?_set_self hkl] at h1
   injection h1 with h1; subst h1
   simp [SB.blk] at h3
  ·rw [List.getElem?_set_ne hjk] at h1
   exact hjk (hs.inj k j y hblk (by rw [blkAt_eq h1 h2]; exact h3))
 have hcell : ∀ b i v, H.putAt g off xs b i = some v → H b i = some v ∨ (b = g ∧ w'.cell? ⟨g, i, none⟩ = some v) := fun b i v ev => by
  rcases Hp.putAt_inv ev with e1 | ⟨rfl, e0, e1⟩
  ·exact .inl e1
  ·refine .inr ⟨rfl, ?_⟩
   rw [Nat.mul_one] at htk
   rw [← htk, List.getElem?_take] at e1
   split at e1
   ·simp only [World.cell?, f6]
    rw [List.getElem?_drop, show off + (i - off) = i by omega] at e1
    simpa using e1
   ·cases e1
 have hst2 : St w0 M H0 ρ (H.putAt g off xs) (G.set k .dead) w' := by
  refine ⟨hst.os, hst.tape, hst.output, hst.size, hst.old, hst.hle.trans (Hp.putAt_le hout), ?_, ?_, hst.len, hst.ok, ?_, hst.inj⟩
  ·intro b i v ev
   rcases hcell b i v ev with e1 | ⟨rfl, e1⟩
   ·exact hst.hin b i v e1
   ·exact e1
  ·intro b i v ev
   rcases hcell b i v ev with e1 | ⟨rfl, e1⟩
   ·exact hst.hnew b i v e1
   ·exact .inr (hs.own k b hblk).1
  ·intro j y hj
   obtain ⟨h1, h2⟩ := hst.own j y hj
   refine ⟨h1, fun i => ?_⟩
   cases ev : H.putAt g off xs y i with
   | none => rfl
   | some v =>
    rcases hcell y i v ev with e1 | ⟨e1, _⟩
    ·rw [h2 i] at e1; cases e1
    ·exact absurd e1 (hnk j y hj)
 rw [hrun]
 exact ⟨pv (.slice (some ⟨g, off, none⟩) n cap), ρ, H.putAt g off xs, G.set k .dead, hst2, .refl _, rfl, Hp.putAt_le hout, h ⟨g, off, none⟩ cap _ (Hp.putAt_le hout) Hp.putAt_rd⟩
end
end Go.Kx
namespace Go.Kx.Wl
set_option linter.unusedSimpArgs false
def be4 (n : Nat) : List UInt8 := [UInt8.ofNat (n / 16777216), UInt8.ofNat (n / 65536), UInt8.ofNat (n / 256), UInt8.ofNat n]
def num4 (l : List UInt8) : Nat := l.foldl (fun a c => a * 256 + c.toNat) 0
theorem be4_len (n : Nat) : (be4 n).length = 4 := rfl
theorem num4_be4 {n : Nat} (h : n < 4294967296) : num4 (be4 n) = n := by
 unfold num4 be4
 simp only [List.foldl_cons, List.foldl_nil, UInt8.toNat_ofNat']
 omega
def stepP (n : Nat) : Nat := if n % 2 = 1 then (n / 2) ^^^ 3988292384 else n / 2
def byteP (n : Nat) (c : UInt8) : Nat := stepP (stepP (stepP (stepP (stepP (stepP (stepP (stepP (n ^^^ c.toNat))))))))
def crcS (l : List UInt8) : Nat := l.foldl byteP 4294967295
def crcP (l : List UInt8) : Nat := 4294967295 - crcS l
theorem step_lt {n : Nat} (h : n < 4294967296) : stepP n < 4294967296 := by
 unfold stepP
 split
 ·exact Nat.xor_lt_two_pow (n := 32) (by omega) (by decide)
 ·omega
theorem byte_lt {n : Nat} (h : n < 4294967296) (c : UInt8) : byteP n c < 4294967296 := by
 have : n ^^^ c.toNat < 2 ^ 32 := Nat.xor_lt_two_pow (by omega) (by have := c.toNat_lt; omega)
 exact step_lt (step_lt (step_lt (step_lt (step_lt (step_lt (step_lt (step_lt (by omega))))))))
theorem crcS_lt (l : List UInt8) : crcS l < 4294967296 := by
 unfold crcS
 have : ∀ (l : List UInt8) (n : Nat), n < 4294967296 → l.foldl byteP n < 4294967296 := by
  intro l
  induction l with
  | nil => exact fun n h => h
  | cons c r ih => exact fun n h => ih _ (byte_lt h c)
 exact this l _ (by decide)
theorem crc_lt (l : List UInt8) : crcP l < 4294967296 := by unfold crcP; omega
def headB (g : Nat) : List UInt8 := be4 g ++ be4 (crcP (be4 g)) ++ [1, 0, 0, 0, 0, 0, 0, 0]
def sumP (g at' : Nat) (b : List UInt8) : List UInt8 := be4 (crcP (be4 g ++ be4 at' ++ be4 b.length ++ b))
def recB (g at' : Nat) (b : List UInt8) (m : UInt8) : List UInt8 := be4 b.length ++ sumP g at' b ++ m :: b
def laidB (g : Nat) : Nat → List (List UInt8) → List UInt8
 | _, [] => []
 | at', b :: r => recB g at' b 1 ++ laidB g (at' + 9 + b.length) r
def costs (rs : List (List UInt8)) : Nat := (rs.map fun b => 9 + b.length).sum
theorem head_len (g : Nat) : (headB g).length = 16 := rfl
theorem rec_len (g at' : Nat) (b : List UInt8) (m : UInt8) : (recB g at' b m).length = 9 + b.length := by
 unfold recB sumP
 simp [be4_len]
 omega
theorem laid_len (g : Nat) : ∀ (rs : List (List UInt8)) (at' : Nat), (laidB g at' rs).length = costs rs
 | [], _ => rfl
 | b :: r, at' => by
  unfold laidB
  rw [List.length_append, rec_len, laid_len g r]
  unfold costs
  simp
theorem laid_append (g : Nat) (b : List UInt8) : ∀ (rs : List (List UInt8)) (at' : Nat), laidB g at' (rs ++ [b]) = laidB g at' rs ++ recB g (at' + costs rs) b 1
 | [], at' => by simp [laidB, costs]
 | a :: r, at' => by
  show recB g at' a 1 ++ laidB g (at' + 9 + a.length) (r ++ [b]) = _
  rw [laid_append g b r]
  show _ = recB g at' a 1 ++ laidB g (at' + 9 + a.length) r ++ _
  rw [List.append_assoc]
  congr 3
  unfold costs
  simp
  omega
def genP (R : List UInt8) : Nat := if R[8]? = some 1 ∧ (R.drop 4).take 4 = be4 (crcP (R.take 4)) ∧ num4 (R.take 4) ≤ 2147483647 then num4 (R.take 4) else 0
theorem gen_head {g : Nat} (hg : g ≤ 2147483647) (r : List UInt8) : genP (headB g ++ r) = g := by
 have h1 : (headB g ++ r).take 4 = be4 g := rfl
 have h2 : ((headB g ++ r).drop 4).take 4 = be4 (crcP (be4 g)) := rfl
 have h3 : (headB g ++ r)[8]? = some 1 := rfl
 unfold genP
 rw [h1, h2, h3, num4_be4 (by omega), if_pos ⟨rfl, rfl, hg⟩]
theorem gen_zero {n : Nat} : genP (List.replicate n 0) = 0 := by
 unfold genP
 rw [if_neg]
 rintro ⟨h, _⟩
 rw [List.getElem?_replicate] at h
 split at h
 ·injection h with h; exact absurd h (by decide)
 ·cases h
def nextP (R : List UInt8) (g at' : Nat) : Option (List UInt8) :=
 if at' + 9 > R.length then none else
 if num4 ((R.drop at').take 4) < 1 ∨ num4 ((R.drop at').take 4) > 65536 ∨ at' + 9 + num4 ((R.drop at').take 4) > R.length ∨ R[at' + 8]? ≠ some 1 then none else
 if sumP g at' ((R.drop (at' + 9)).take (num4 ((R.drop at').take 4))) = (R.drop (at' + 4)).take 4 then some ((R.drop (at' + 9)).take (num4 ((R.drop at').take 4))) else none
def scanP (R : List UInt8) (g : Nat) : Nat → Nat → List (List UInt8)
 | 0, _ => []
 | f + 1, at' => match nextP R g at' with
  | none => []
  | some b => b :: scanP R g f (at' + 9 + b.length)
theorem drop_at {α : Type} {A B : List α} {n : Nat} (h : n = A.length) (k : Nat) : (A ++ B).drop (n + k) = B.drop k := by
 rw [List.drop_append, List.drop_of_length_le (by omega), List.nil_append]
 congr 1
 omega
theorem get_at {α : Type} {A B : List α} {n : Nat} (h : n = A.length) (k : Nat) : (A ++ B)[n + k]? = B[k]? := by
 rw [List.getElem?_append_right (by omega)]
 congr 1
 omega
theorem next_rec {g at' : Nat} {b A B : List UInt8} (hA : at' = A.length) (h1 : 1 ≤ b.length) (h2 : b.length ≤ 65536) : nextP (A ++ (recB g at' b 1 ++ B)) g at' = some b := by
 have e0 : num4 (((A ++ (recB g at' b 1 ++ B)).drop at').take 4) = b.length := by
  have := drop_at (B := recB g at' b 1 ++ B) hA 0
  rw [Nat.add_zero] at this
  rw [this]
  show num4 (be4 b.length) = _
  exact num4_be4 (by omega)
 have e1 : (A ++ (recB g at' b 1 ++ B)).length = at' + (9 + b.length + B.length) := by rw [List.length_append, List.length_append, rec_len, hA]
 have e2 : (A ++ (recB g at' b 1 ++ B))[at' + 8]? = some 1 := by rw [get_at hA]; rfl
 have e3 : ((A ++ (recB g at' b 1 ++ B)).drop (at' + 9)).take b.length = b := by
  rw [drop_at hA]
  show (b ++ B).take b.length = b
  simp
 have e4 : ((A ++ (recB g at' b 1 ++ B)).drop (at' + 4)).take 4 = sumP g at' b := by
  rw [drop_at hA]
  rfl
 unfold nextP
 rw [if_neg (by rw [e1]; omega), e0, if_neg (fun h => by
  rcases h with h | h | h | h
  ·omega
  ·omega
  ·rw [e1] at h; omega
  ·exact h e2), e3, if_pos e4.symm]
theorem next_zero {g at' n : Nat} {A : List UInt8} (hA : at' = A.length) : nextP (A ++ List.replicate n 0) g at' = none := by
 unfold nextP
 by_cases h : at' + 9 > (A ++ List.replicate n (0 : UInt8)).length
 ·rw [if_pos h]
 ·rw [if_neg h, if_pos]
  right; right; right
  rw [get_at hA, List.getElem?_replicate]
  rw [List.length_append, List.length_replicate] at h
  rw [if_pos (by omega)]
  exact fun h => by injection h with h; exact absurd h (by decide)
theorem scan_laid {g n : Nat} : ∀ (rs : List (List UInt8)) (A : List UInt8) (at' f : Nat), at' = A.length → (∀ b ∈ rs, 1 ≤ b.length ∧ b.length ≤ 65536) → rs.length < f → scanP (A ++ (laidB g at' rs ++ List.replicate n 0)) g f at' = rs
 | [], A, at', f, hA, _, hf => by
  obtain ⟨f, rfl⟩ : ∃ k, f = k + 1 := ⟨f - 1, by simp at hf; omega⟩
  unfold scanP
  show (match nextP (A ++ List.replicate n 0) g at' with
   | none => []
   | some b => b :: scanP _ g f (at' + 9 + b.length)) = _
  rw [next_zero hA]
 | b :: r, A, at', f, hA, hb, hf => by
  obtain ⟨f, rfl⟩ : ∃ k, f = k + 1 := ⟨f - 1, by simp at hf; omega⟩
  obtain ⟨h1, h2⟩ := hb b List.mem_cons_self
  have e : A ++ (laidB g at' (b :: r) ++ List.replicate n 0) = A ++ (recB g at' b 1 ++ (laidB g (at' + 9 + b.length) r ++ List.replicate n 0)) := by
   show A ++ (recB g at' b 1 ++ laidB g (at' + 9 + b.length) r ++ List.replicate n 0) = _
   rw [List.append_assoc (recB g at' b 1)]
  unfold scanP
  rw [e, next_rec hA h1 h2]
  dsimp only
  congr 1
  have e2 : A ++ (recB g at' b 1 ++ (laidB g (at' + 9 + b.length) r ++ List.replicate n 0)) = (A ++ recB g at' b 1) ++ (laidB g (at' + 9 + b.length) r ++ List.replicate n 0) := by rw [List.append_assoc]
  rw [e2]
  exact scan_laid r _ _ f (by rw [List.length_append, rec_len, hA]; omega) (fun c hc => hb c (List.mem_cons_of_mem _ hc)) (by simp at hf; omega)
end Go.Kx.Wl
namespace Go.Kx.Wl
set_option linter.unusedSimpArgs false
def ow (D : List UInt8) (at' : Nat) (b : List UInt8) : List UInt8 := D.take at' ++ b ++ D.drop (at' + b.length)
theorem ow_len {D b : List UInt8} {at' : Nat} (h : at' + b.length ≤ D.length) : (ow D at' b).length = D.length := by
 unfold ow
 simp
 omega
theorem ow_mid {A B C B' : List UInt8} {n : Nat} (hn : n = A.length) (hl : B'.length = B.length) : ow (A ++ (B ++ C)) n B' = A ++ (B' ++ C) := by
 unfold ow
 subst hn
 have h1 : (A ++ (B ++ C)).take A.length = A := by simp
 have h2 : (A ++ (B ++ C)).drop (A.length + B'.length) = C := by rw [drop_at rfl, hl]; simp
 rw [h1, h2, List.append_assoc]
def LogIs (D : List UInt8) (hs h g : Nat) (rs : List (List UInt8)) : Prop :=
 ∃ P S k, D = P ++ (headB g ++ (laidB g 16 rs ++ (List.replicate k 0 ++ S))) ∧ P.length = h * hs ∧ 16 + costs rs + k = hs ∧ ∀ b ∈ rs, 1 ≤ b.length ∧ b.length ≤ 65536
def halfOf (D : List UInt8) (hs h : Nat) : List UInt8 := (D.drop (h * hs)).take hs
theorem LogIs.half {D : List UInt8} {hs h g : Nat} {rs : List (List UInt8)} (hl : LogIs D hs h g rs) : ∃ k, 16 + costs rs + k = hs ∧ halfOf D hs h = headB g ++ (laidB g 16 rs ++ List.replicate k 0) := by
 obtain ⟨P, S, k, rfl, hp, hk, _⟩ := hl
 refine ⟨k, hk, ?_⟩
 unfold halfOf
 rw [show h * hs = P.length + 0 by omega, drop_at rfl, List.drop_zero]
 have e : headB g ++ (laidB g 16 rs ++ (List.replicate k 0 ++ S)) = (headB g ++ (laidB g 16 rs ++ List.replicate k 0)) ++ S := by simp only [List.append_assoc]
 rw [e, List.take_append_of_le_length (by simp [head_len, laid_len]; omega), List.take_of_length_le (by simp [head_len, laid_len]; omega)]
theorem LogIs.gen {D : List UInt8} {hs h g : Nat} {rs : List (List UInt8)} (hl : LogIs D hs h g rs) (hg : g ≤ 2147483647) : genP (halfOf D hs h) = g := by
 obtain ⟨k, _, e⟩ := hl.half
 rw [e, gen_head hg]
theorem LogIs.scan {D : List UInt8} {hs h g : Nat} {rs : List (List UInt8)} (hl : LogIs D hs h g rs) {f : Nat} (hf : rs.length < f) : scanP (halfOf D hs h) g f 16 = rs := by
 have hb := hl.choose_spec.choose_spec.choose_spec.2.2.2
 obtain ⟨k, _, e⟩ := hl.half
 rw [e]
 exact scan_laid rs (headB g) 16 f rfl hb hf
theorem LogIs.rest {D : List UInt8} {hs h g : Nat} {rs : List (List UInt8)} (hl : LogIs D hs h g rs) : ∃ k, 16 + costs rs + k = hs ∧ (halfOf D hs h).drop (16 + costs rs) = List.replicate k 0 := by
 obtain ⟨k, hk, e⟩ := hl.half
 refine ⟨k, hk, ?_⟩
 rw [e, ← List.append_assoc, show 16 + costs rs = (headB g ++ laidB g 16 rs).length + 0 by simp [head_len, laid_len], drop_at rfl, List.drop_zero]
theorem LogIs.append {D : List UInt8} {hs h g : Nat} {rs : List (List UInt8)} (hl : LogIs D hs h g rs) {b : List UInt8} (h1 : 1 ≤ b.length) (h2 : b.length ≤ 65536) (hf : 16 + costs rs + (9 + b.length) ≤ hs) :
  LogIs (ow (ow D (h * hs + (16 + costs rs)) (recB g (16 + costs rs) b 0)) (h * hs + (16 + costs rs) + 8) [1]) hs h g (rs ++ [b]) := by
 obtain ⟨P, S, k, rfl, hp, hk, hb⟩ := hl
 obtain ⟨q, hq⟩ : ∃ q, k = (9 + b.length) + q := ⟨k - (9 + b.length), by omega⟩
 refine ⟨P, S, q, ?_, hp, ?_, ?_⟩
 ·have e1 : P ++ (headB g ++ (laidB g 16 rs ++ (List.replicate k 0 ++ S))) = (P ++ (headB g ++ laidB g 16 rs)) ++ (List.replicate (9 + b.length) 0 ++ (List.replicate q 0 ++ S)) := by
   rw [hq, ← List.replicate_append_replicate]
   simp only [List.append_assoc]
  have hn : h * hs + (16 + costs rs) = (P ++ (headB g ++ laidB g 16 rs)).length := by simp [head_len, laid_len, hp]
  rw [e1, ow_mid hn (by rw [rec_len, List.length_replicate])]
  have e2 : (P ++ (headB g ++ laidB g 16 rs)) ++ (recB g (16 + costs rs) b 0 ++ (List.replicate q 0 ++ S)) = ((P ++ (headB g ++ laidB g 16 rs)) ++ (be4 b.length ++ sumP g (16 + costs rs) b)) ++ ([0] ++ (b ++ (List.replicate q 0 ++ S))) := by
   unfold recB
   simp only [List.append_assoc, List.cons_append, List.nil_append]
  have hn2 : h * hs + (16 + costs rs) + 8 = ((P ++ (headB g ++ laidB g 16 rs)) ++ (be4 b.length ++ sumP g (16 + costs rs) b)).length := by
   rw [List.length_append, ← hn]
   rfl
  rw [e2, ow_mid (B := [0]) (B' := [1]) hn2 rfl, laid_append]
  unfold recB
  simp only [List.append_assoc, List.cons_append, List.nil_append]
 ·have : costs (rs ++ [b]) = costs rs + (9 + b.length) := by unfold costs; simp
  omega
 ·intro c hc
  rcases List.mem_append.1 hc with hc | hc
  ·exact hb c hc
  ·simp at hc; subst hc; exact ⟨h1, h2⟩
theorem crown_new {n hs : Nat} (hn : hs + hs ≤ n) (h16 : 16 ≤ hs) : LogIs (ow (ow (List.replicate n 0) 0 (be4 1 ++ be4 (crcP (be4 1)) ++ [0, 0, 0, 0, 0, 0, 0, 0])) 8 [1]) hs 0 1 [] := by
 obtain ⟨q, hq⟩ : ∃ q, n = 16 + q := ⟨n - 16, by omega⟩
 refine ⟨[], List.replicate (n - hs) 0, hs - 16, ?_, by simp, by unfold costs; simp; omega, fun b hb => by simp at hb⟩
 have e1 : List.replicate n (0 : UInt8) = [] ++ (List.replicate 16 0 ++ List.replicate q 0) := by rw [hq, ← List.replicate_append_replicate]; rfl
 have e2 : List.replicate q (0 : UInt8) = List.replicate (hs - 16) 0 ++ List.replicate (n - hs) 0 := by
  rw [List.replicate_append_replicate]
  congr 1
  omega
 rw [e1, ow_mid (n := 0) (B := List.replicate 16 0) (B' := be4 1 ++ be4 (crcP (be4 1)) ++ [0, 0, 0, 0, 0, 0, 0, 0]) rfl rfl]
 have e3 : ([] : List UInt8) ++ (be4 1 ++ be4 (crcP (be4 1)) ++ [0, 0, 0, 0, 0, 0, 0, 0] ++ List.replicate q 0) = (be4 1 ++ be4 (crcP (be4 1))) ++ ([0] ++ ([0, 0, 0, 0, 0, 0, 0] ++ List.replicate q 0)) := by
  simp only [List.append_assoc, List.cons_append, List.nil_append]
 rw [e3, ow_mid (n := 8) (B := [0]) (B' := [1]) rfl rfl, e2]
 unfold headB laidB
 simp only [List.append_assoc, List.cons_append, List.nil_append]
end Go.Kx.Wl
namespace Go.Kx.Kv
set_option linter.unusedSimpArgs false
structure Stp where
 kind : UInt8
 key : ByteArray
 val : List UInt8
def kb (s : ByteArray) : List UInt8 := s.data.toList
theorem kb_len (s : ByteArray) : (kb s).length = s.size := by unfold kb; rw [Array.length_toList]; rfl
def stB (p : Stp) : List UInt8 := p.kind :: UInt8.ofNat p.key.size :: (kb p.key ++ if p.kind = 1 then UInt8.ofNat (p.val.length / 256) :: UInt8.ofNat p.val.length :: p.val else [])
structure RightSt (p : Stp) : Prop where
 kind : p.kind = 1 ∨ (p.kind = 2 ∧ p.val = [])
 key : 1 ≤ p.key.size ∧ p.key.size ≤ 128
 val : p.val.length ≤ 4096
abbrev Rdr := List UInt8 × Bool
def tkR (r : Rdr) (n : Nat) : List UInt8 × Rdr := if r.2 = true ∨ n > r.1.length then (List.replicate n 0, (r.1, true)) else (r.1.take n, (r.1.drop n, false))
theorem tkR_ok {A B : List UInt8} {n : Nat} (h : n = A.length) : tkR (A ++ B, false) n = (A, (B, false)) := by
 unfold tkR
 subst h
 rw [if_neg (by simp)]
 simp
def stR (r : Rdr) : Stp × Rdr :=
 let a := tkR r 1
 let b := tkR a.2 1
 let c := tkR b.2 (b.1.getD 0 0).toNat
 let k := a.1.getD 0 0
 let key : ByteArray := ⟨c.1.toArray⟩
 let d := if k = 1 then
   let n := tkR c.2 2
   tkR n.2 ((n.1.getD 0 0).toNat * 256 + (n.1.getD 1 0).toNat)
  else ([], c.2)
 (⟨k, key, d.1⟩, (d.2.1, d.2.2 || decide (k ≠ 1 ∧ k ≠ 2) || decide (key.size = 0) || decide (key.size > 128) || decide (d.1.length > 4096)))
theorem stR_read {p : Stp} (h : RightSt p) (rest : List UInt8) : stR (stB p ++ rest, false) = (p, (rest, false)) := by
 obtain ⟨k, key, v⟩ := p
 obtain ⟨h1, h2, h3⟩ := h
 dsimp only at h1 h2 h3
 have e1 : tkR (stB ⟨k, key, v⟩ ++ rest, false) 1 = ([k], ((stB ⟨k, key, v⟩ ++ rest).drop 1, false)) := tkR_ok (A := [k]) rfl
 have e2 : tkR ((stB ⟨k, key, v⟩ ++ rest).drop 1, false) 1 = ([UInt8.ofNat key.size], ((stB ⟨k, key, v⟩ ++ rest).drop 2, false)) := tkR_ok (A := [UInt8.ofNat key.size]) rfl
 have hks : (UInt8.ofNat key.size).toNat = key.size := by rw [UInt8.toNat_ofNat']; omega
 have hkey : (⟨(kb key).toArray⟩ : ByteArray) = key := by unfold kb; simp
 unfold stR
 rw [e1]
 dsimp only
 rw [e2]
 simp only [List.getD_cons_zero]
 rw [hks]
 rcases h1 with rfl | ⟨rfl, rfl⟩
 ·have e3 : tkR ((stB ⟨1, key, v⟩ ++ rest).drop 2, false) key.size = (kb key, ([UInt8.ofNat (v.length / 256), UInt8.ofNat v.length] ++ (v ++ rest), false)) := by
   have : (stB ⟨1, key, v⟩ ++ rest).drop 2 = kb key ++ ([UInt8.ofNat (v.length / 256), UInt8.ofNat v.length] ++ (v ++ rest)) := by
    unfold stB
    simp
   rw [this]
   exact tkR_ok (kb_len key).symm
  have hn : ([UInt8.ofNat (v.length / 256), UInt8.ofNat v.length].getD 0 0).toNat * 256 + ([UInt8.ofNat (v.length / 256), UInt8.ofNat v.length].getD 1 0).toNat = v.length := by
   show (UInt8.ofNat (v.length / 256)).toNat * 256 + (UInt8.ofNat v.length).toNat = _
   rw [UInt8.toNat_ofNat', UInt8.toNat_ofNat']
   omega
  rw [e3]
  dsimp only
  rw [if_pos rfl, tkR_ok (n := 2) (A := [UInt8.ofNat (v.length / 256), UInt8.ofNat v.length]) rfl]
  dsimp only
  rw [hn, tkR_ok rfl, hkey]
  dsimp only
  rw [decide_eq_false (by simp), decide_eq_false (by omega), decide_eq_false (by omega), decide_eq_false (by omega)]
  rfl
 ·have e3 : tkR ((stB ⟨2, key, []⟩ ++ rest).drop 2, false) key.size = (kb key, (rest, false)) := by
   have : (stB ⟨2, key, []⟩ ++ rest).drop 2 = kb key ++ rest := by
    unfold stB
    simp
   rw [this]
   exact tkR_ok (kb_len key).symm
  rw [e3]
  dsimp only
  rw [if_neg (by decide), hkey]
  dsimp only
  rw [decide_eq_false (by simp), decide_eq_false (by omega), decide_eq_false (by omega), decide_eq_false (by simp)]
  rfl
def stsR : Nat → Rdr → List Stp × Bool
 | 0, _ => ([], false)
 | f + 1, r => if r.1 = [] ∨ r.2 = true then ([], !r.2) else
  let x := stR r
  let y := stsR f x.2
  (x.1 :: y.1, y.2)
def recS (l : List Stp) : List UInt8 := l.flatMap stB
theorem stB_ne (p : Stp) : stB p ≠ [] := by unfold stB; exact List.cons_ne_nil _ _
theorem sts_read : ∀ (l : List Stp) (f : Nat), (∀ p ∈ l, RightSt p) → l.length < f → stsR f (recS l, false) = (l, true)
 | [], f, _, hf => by
  obtain ⟨f, rfl⟩ : ∃ k, f = k + 1 := ⟨f - 1, by simp at hf; omega⟩
  unfold stsR
  rw [if_pos (.inl rfl)]
  rfl
 | p :: r, f, hp, hf => by
  obtain ⟨f, rfl⟩ : ∃ k, f = k + 1 := ⟨f - 1, by simp at hf; omega⟩
  have e : recS (p :: r) = stB p ++ recS r := by unfold recS; rw [List.flatMap_cons]
  unfold stsR
  rw [e, if_neg (by
   rintro (h | h)
   ·exact stB_ne p (List.append_eq_nil_iff.1 h).1
   ·cases h), stR_read (hp p List.mem_cons_self)]
  dsimp only
  rw [sts_read r f (fun q hq => hp q (List.mem_cons_of_mem _ hq)) (by simp at hf; omega)]
abbrev Tbl := ByteArray → Option (List UInt8)
def doS (t : Tbl) (p : Stp) : Tbl := fun k => if k = p.key then (if p.kind = 1 then some p.val else none) else t k
def allS (t : Tbl) (l : List Stp) : Tbl := l.foldl doS t
theorem allS_append (t : Tbl) (a b : List Stp) : allS t (a ++ b) = allS (allS t a) b := List.foldl_append
end Go.Kx.Kv
namespace Go.Kx.Kv
open Go.Kx.Wl
set_option linter.unusedSimpArgs false
theorem half_other {D b : List UInt8} {at' hs h h' : Nat} (hh : h ≤ 1) (hh' : h' ≤ 1) (hne : h ≠ h') (h1 : h * hs ≤ at') (h2 : at' + b.length ≤ (h + 1) * hs) (hD : hs + hs ≤ D.length) : halfOf (ow D at' b) hs h' = halfOf D hs h' := by
 unfold halfOf ow
 have hb : h = 0 ∧ h' = 1 ∨ h = 1 ∧ h' = 0 := by omega
 rcases hb with ⟨rfl, rfl⟩ | ⟨rfl, rfl⟩
 ·simp only [Nat.one_mul, Nat.zero_add] at h2 ⊢
  congr 1
  have e : hs = (D.take at' ++ b).length + (hs - (at' + b.length)) := by simp; omega
  rw [e, List.drop_append, List.drop_of_length_le (by omega), List.nil_append, List.drop_drop]
  congr 1
  simp
  omega
 ·simp only [Nat.one_mul, Nat.zero_mul, List.drop_zero] at h1 ⊢
  rw [List.append_assoc, List.take_append_of_le_length (by simp; omega), List.take_take]
  congr 1
  omega
structure StoreIs (D : List UInt8) (h g : Nat) (ls : List (List Stp)) : Prop where
 log : LogIs D (D.length / 2) h g (ls.map recS)
 half : h ≤ 1
 gen : 1 ≤ g ∧ g ≤ 2147483647
 other : genP (halfOf D (D.length / 2) (1 - h)) < g
 right : ∀ l ∈ ls, l ≠ [] ∧ ∀ p ∈ l, RightSt p
def tblOf (ls : List (List Stp)) : Tbl := allS (fun _ => none) ls.flatten
def commitB (D : List UInt8) (h g : Nat) (ls : List (List Stp)) (l : List Stp) : List UInt8 :=
 ow (ow D (h * (D.length / 2) + (16 + costs (ls.map recS))) (recB g (16 + costs (ls.map recS)) (recS l) 0)) (h * (D.length / 2) + (16 + costs (ls.map recS)) + 8) [1]
theorem recS_pos {l : List Stp} (h : l ≠ []) : 1 ≤ (recS l).length := by
 cases l with
 | nil => exact absurd rfl h
 | cons p r =>
  unfold recS
  rw [List.flatMap_cons, List.length_append]
  have := List.length_pos_iff.2 (stB_ne p)
  omega
theorem StoreIs.commit {D : List UInt8} {h g : Nat} {ls : List (List Stp)} (hs : StoreIs D h g ls) {l : List Stp} (hl : l ≠ []) (hr : ∀ p ∈ l, RightSt p) (h1 : (recS l).length ≤ 65536) (hf : 16 + costs (ls.map recS) + (9 + (recS l).length) ≤ D.length / 2) :
  (commitB D h g ls l).length = D.length ∧ StoreIs (commitB D h g ls l) h g (ls ++ [l]) ∧ tblOf (ls ++ [l]) = allS (tblOf ls) l := by
 have hh := hs.half
 have hm : h * (D.length / 2) + D.length / 2 ≤ D.length := by
  have hb : h = 0 ∨ h = 1 := by omega
  rcases hb with rfl | rfl <;> omega
 have l1 : (ow D (h * (D.length / 2) + (16 + costs (ls.map recS))) (recB g (16 + costs (ls.map recS)) (recS l) 0)).length = D.length := ow_len (by rw [rec_len]; omega)
 have l2 : (commitB D h g ls l).length = D.length := by
  unfold commitB
  rw [ow_len (by rw [l1]; show _ + 1 ≤ _; omega), l1]
 have hmul : (h + 1) * (D.length / 2) = h * (D.length / 2) + D.length / 2 := Nat.succ_mul _ _
 refine ⟨l2, ⟨?_, hh, hs.gen, ?_, ?_⟩, ?_⟩
 ·rw [l2, List.map_append]
  exact hs.log.append (recS_pos hl) h1 hf
 ·rw [l2]
  unfold commitB
  rw [half_other hh (by omega) (by omega) (by omega) (by rw [hmul]; show _ + 1 ≤ _; omega) (by rw [l1]; omega), half_other hh (by omega) (by omega) (by omega) (by rw [hmul, rec_len]; omega) (by omega)]
  exact hs.other
 ·intro q hq
  rcases List.mem_append.1 hq with hq | hq
  ·exact hs.right q hq
  ·simp at hq; subst hq; exact ⟨hl, hr⟩
 ·unfold tblOf
  rw [List.flatten_append, allS_append]
  simp
theorem StoreIs.opens {D : List UInt8} {h g : Nat} {ls : List (List Stp)} (hs : StoreIs D h g ls) : genP (halfOf D (D.length / 2) h) = g ∧ (∀ f, ls.length < f → scanP (halfOf D (D.length / 2) h) g f 16 = ls.map recS) ∧ ∀ l ∈ ls, ∀ f, l.length < f → stsR f (recS l, false) = (l, true) :=
 ⟨hs.log.gen hs.gen.2, fun f hf => hs.log.scan (by simpa using hf), fun l hl f hf => sts_read l f (hs.right l hl).2 hf⟩
def freshB (n : Nat) : List UInt8 := ow (ow (List.replicate n 0) 0 (be4 1 ++ be4 (crcP (be4 1)) ++ [0, 0, 0, 0, 0, 0, 0, 0])) 8 [1]
theorem fresh_is {n : Nat} (h : 32 ≤ n) : (freshB n).length = n ∧ StoreIs (freshB n) 0 1 [] := by
 have l1 : (ow (List.replicate n 0) 0 (be4 1 ++ be4 (crcP (be4 1)) ++ [0, 0, 0, 0, 0, 0, 0, 0])).length = n := by
  rw [ow_len (by rw [List.length_replicate]; show 0 + 16 ≤ n; omega), List.length_replicate]
 have l2 : (freshB n).length = n := by
  unfold freshB
  rw [ow_len (by rw [l1]; show 8 + 1 ≤ n; omega), l1]
 refine ⟨l2, ⟨?_, by decide, by decide, ?_, fun l hl => by simp at hl⟩⟩
 ·rw [l2]
  exact crown_new (by omega) (by omega)
 ·rw [l2]
  unfold freshB
  rw [half_other (h := 0) (by decide) (by decide) (by decide) (by omega) (by show 8 + 1 ≤ _; omega) (by rw [l1]; omega), half_other (h := 0) (by decide) (by decide) (by decide) (by omega) (by show 0 + 16 ≤ _; omega) (by rw [List.length_replicate]; omega)]
  unfold halfOf
  rw [List.drop_replicate, List.take_replicate, gen_zero]
  decide
end Go.Kx.Kv
namespace Go.Kx.Wl
open Go.Kx.Kv
set_option linter.unusedSimpArgs false
structure Dk where
 bs : List UInt8
 down : Bool
 lit : Bool
 fw : Int
 fb : Int
 wr : Int
def wrP (d : Dk) (a : Nat) (b : List UInt8) : Dk × Bool :=
 if d.down = true then (d, false) else
 if d.lit = false then ({ d with bs := ow d.bs a b }, true) else
 if 0 ≤ d.fw - 1 then ({ d with bs := ow d.bs a b, fw := d.fw - 1 }, true) else
 ({ d with bs := ow d.bs a (b.take (min d.fb.toNat b.length)), fw := d.fw - 1, down := true }, false)
def clrB (D : List UInt8) (hs h a : Nat) : List UInt8 := if ((halfOf D hs h).drop a).any (fun c => decide (c ≠ 0)) = true then ow D (h * hs + a) (List.replicate (hs - a) 0) else D
def crownB (D : List UInt8) (hs h g : Nat) : List UInt8 := ow (ow D (h * hs) (be4 g ++ be4 (crcP (be4 g)) ++ [0, 0, 0, 0, 0, 0, 0, 0])) (h * hs + 8) [1]
structure Op where
 bs : List UInt8
 half : Nat
 gen : Nat
 fin : Nat
 recs : List (List UInt8)
def foundP (D : List UInt8) (hs h g : Nat) : Op :=
 let rs := scanP (halfOf D hs h) g (hs + 1) 16
 ⟨clrB D hs h (16 + costs rs), h, g, 16 + costs rs, rs⟩
def openP (D : List UInt8) : Op :=
 let hs := D.length / 2
 let a := genP (halfOf D hs 0)
 let b := genP (halfOf D hs 1)
 if a = 0 ∧ b = 0 then ⟨crownB (clrB D hs 0 0) hs 0 1, 0, 1, 16, []⟩
 else if a < b then foundP D hs 1 b else foundP D hs 0 a
theorem any_zero (n : Nat) : ((List.replicate n (0 : UInt8)).any fun c => decide (c ≠ 0)) = false := by
 rw [List.any_eq_false]
 intro c hc
 rw [(List.mem_replicate.1 hc).2]
 decide
theorem costs_ge (rs : List (List UInt8)) : rs.length ≤ costs rs := by
 induction rs with
 | nil => exact Nat.zero_le _
 | cons b r ih =>
  have : costs (b :: r) = 9 + b.length + costs r := by unfold costs; simp
  rw [this, List.length_cons]
  omega
theorem found_is {D : List UInt8} {h g : Nat} {ls : List (List Stp)} (hs : StoreIs D h g ls) : foundP D (D.length / 2) h g = ⟨D, h, g, 16 + costs (ls.map recS), ls.map recS⟩ := by
 obtain ⟨k, hk, hr⟩ := hs.log.rest
 have hle := costs_ge (ls.map recS)
 have e : scanP (halfOf D (D.length / 2) h) g (D.length / 2 + 1) 16 = ls.map recS := hs.log.scan (by omega)
 unfold foundP
 dsimp only
 rw [e]
 unfold clrB
 rw [hr, any_zero]
 rfl
theorem open_is {D : List UInt8} {h g : Nat} {ls : List (List Stp)} (hs : StoreIs D h g ls) : openP D = ⟨D, h, g, 16 + costs (ls.map recS), ls.map recS⟩ := by
 have hg := hs.opens.1
 have h1 := hs.gen.1
 have ho := hs.other
 have hf := found_is hs
 unfold openP
 dsimp only
 have hh : h = 0 ∨ h = 1 := by have := hs.half; omega
 rcases hh with rfl | rfl
 ·rw [if_neg (by omega), if_neg (by rw [hg]; exact Nat.not_lt.2 (Nat.le_of_lt ho)), hg]
  exact hf
 ·rw [if_neg (by omega), if_pos (by rw [hg]; exact ho), hg]
  exact hf
theorem open_new {n : Nat} : openP (List.replicate n 0) = ⟨freshB n, 0, 1, 16, []⟩ := by
 unfold openP
 dsimp only
 have e0 : ∀ h, halfOf (List.replicate n 0) ((List.replicate n (0 : UInt8)).length / 2) h = List.replicate (min ((List.replicate n (0 : UInt8)).length / 2) (n - h * ((List.replicate n (0 : UInt8)).length / 2))) 0 := fun h => by
  unfold halfOf
  rw [List.drop_replicate, List.take_replicate]
 rw [e0, e0, gen_zero, gen_zero, if_pos ⟨rfl, rfl⟩]
 have e1 : clrB (List.replicate n 0) ((List.replicate n (0 : UInt8)).length / 2) 0 0 = List.replicate n 0 := by
  unfold clrB
  rw [e0, List.drop_zero, any_zero]
  rfl
 rw [e1]
 unfold crownB freshB
 rw [Nat.zero_mul, Nat.zero_add]
theorem num4_eq {l : List UInt8} (hl : l.length = 4) {n : Nat} (hn : n < 4294967296) : num4 l = n ↔ l = be4 n := by
 constructor
 ·rintro rfl
  obtain ⟨a, b, c, d, rfl⟩ : ∃ a b c d, l = [a, b, c, d] := by
   match l, hl with
   | [a, b, c, d], _ => exact ⟨a, b, c, d, rfl⟩
  unfold num4 be4
  simp only [List.foldl_cons, List.foldl_nil]
  have := a.toNat_lt
  have := b.toNat_lt
  have := c.toNat_lt
  have := d.toNat_lt
  have e : ∀ (x : UInt8) (n : Nat), n % 256 = x.toNat → x = UInt8.ofNat n := fun x n h => by
   apply UInt8.toNat.inj
   rw [UInt8.toNat_ofNat', h]
  congr 1
  ·exact e _ _ (by omega)
  ·congr 1
   ·exact e _ _ (by omega)
   ·congr 1
    ·exact e _ _ (by omega)
    ·congr 1
     exact e _ _ (by omega)
 ·rintro rfl
  exact num4_be4 hn
theorem num4_lt {l : List UInt8} (hl : l.length = 4) : num4 l < 4294967296 := by
 obtain ⟨a, b, c, d, rfl⟩ : ∃ a b c d, l = [a, b, c, d] := by
  match l, hl with
  | [a, b, c, d], _ => exact ⟨a, b, c, d, rfl⟩
 unfold num4
 simp only [List.foldl_cons, List.foldl_nil]
 have := a.toNat_lt
 have := b.toNat_lt
 have := c.toNat_lt
 have := d.toNat_lt
 omega
end Go.Kx.Wl
namespace Go.Kx.Cr
open Go.Proofs Go.Kx Go.RowKit Go.Kx.Wl
set_option maxRecDepth 20000
set_option linter.unusedSimpArgs false
def T : Tab := [(5, { k := TK.int IntKind.u8, agg := false, size := 1, bytes := 1, zero := [Z.i IntKind.u8] }), (94, { k := TK.slice 5, agg := false, size := 1, bytes := 24, zero := [Z.sl] }), (391, { k := TK.st [(0, 279, 1)], agg := true, size := 1, bytes := 4, zero := [Z.i IntKind.u32] }), (159, { k := TK.slice 94, agg := false, size := 1, bytes := 24, zero := [Z.sl] }), (284, { k := TK.int IntKind.u64, agg := false, size := 1, bytes := 8, zero := [Z.i IntKind.u64] }), (279, { k := TK.int IntKind.u32, agg := false, size := 1, bytes := 4, zero := [Z.i IntKind.u32] }), (3, { k := TK.int IntKind.i64, agg := false, size := 1, bytes := 8, zero := [Z.i IntKind.i64] }), (30, { k := TK.int IntKind.i64, agg := false, size := 1, bytes := 8, zero := [Z.i IntKind.i64] }), (4, { k := TK.bool, agg := false, size := 1, bytes := 1, zero := [Z.b] }), (353, { k := TK.ptr 391, agg := false, size := 1, bytes := 8, zero := [Z.p] }), (355, { k := TK.func, agg := false, size := 1, bytes := 8, zero := [Z.fn] })]
set_option maxRecDepth 100000 in
theorem tab : TabOk Tryz.prog T := tabOk_mk (ts := [5, 94, 391, 159, 284, 279, 3, 30, 4, 353, 355]) (by kernel_rfl)
theorem mixed : Tryz.prog.follows .mixedOrders = true := by kernel_rfl
theorem ofI (a : Nat) : BitVec.ofInt IntKind.u32.bits (a : Int) = BitVec.ofNat 32 a := by
  show BitVec.ofInt 32 (a : Int) = _
  simp
theorem w32 {x : Int} (h : 0 ≤ x) (h' : x < 4294967296) : IntKind.u32.wrap x = x := by
  simp only [IntKind.wrap, IntKind.bits, IntKind.signed]; simp; omega
theorem x_xor {a b : Nat} (ha : a < 4294967296) (hb : b < 4294967296) : IntKind.u32.wrap ((BitVec.ofInt IntKind.u32.bits (a : Int) ^^^ BitVec.ofInt IntKind.u32.bits (b : Int)).toNat : Int) = ((a ^^^ b : Nat) : Int) := by
  rw [ofI, ofI]
  show IntKind.u32.wrap ((BitVec.ofNat 32 a ^^^ BitVec.ofNat 32 b : BitVec 32).toNat : Int) = _
  rw [BitVec.toNat_xor, BitVec.toNat_ofNat, BitVec.toNat_ofNat, Nat.mod_eq_of_lt ha, Nat.mod_eq_of_lt hb]
  have : a ^^^ b < 2 ^ 32 := Nat.xor_lt_two_pow (by omega) (by omega)
  exact w32 (by omega) (by omega)
theorem x_and {a : Nat} (ha : a < 4294967296) : IntKind.u32.wrap ((BitVec.ofInt IntKind.u32.bits (a : Int) &&& BitVec.ofInt IntKind.u32.bits 1).toNat : Int) = ((a % 2 : Nat) : Int) := by
  rw [ofI, show BitVec.ofInt IntKind.u32.bits 1 = BitVec.ofNat 32 1 from rfl]
  show IntKind.u32.wrap ((BitVec.ofNat 32 a &&& BitVec.ofNat 32 1 : BitVec 32).toNat : Int) = _
  rw [BitVec.toNat_and, BitVec.toNat_ofNat, BitVec.toNat_ofNat, Nat.mod_eq_of_lt ha, Nat.mod_eq_of_lt (by decide), Nat.and_one_is_mod]
  exact w32 (by omega) (by omega)
theorem x_shr {a : Nat} (k : Nat) (hk : k ≤ 32) : ((a : Nat) : Int).fdiv (2 ^ min k IntKind.u32.bits) = ((a / 2 ^ k : Nat) : Int) := by
  rw [show min k IntKind.u32.bits = k from Nat.min_eq_left hk, Int.fdiv_eq_ediv_of_nonneg _ (by exact Int.le_of_lt (Int.pow_pos (by decide))), Int.natCast_ediv, Int.natCast_pow]
  rfl
def u4 (n : Nat) : SV := pv (.int .u32 (n : Int))
theorem step_ (n : Nat) (hn : n < 4294967296) (H : Hp) : CallO Tryz.prog 322 [u4 n] H [] fun e H' G' => e = .ret (u4 (stepP n)) ∧ H' = H ∧ G' = [] := by
  refine CallO.of_body tab Tryz.func322 rfl (nt := Tryz.f322.ntmps) rfl (by kernel_rfl) ?_
  (conv => whnf)
  rw [x_and hn]
  refine br.of (fun h1 => ?_) (fun h1 => ?_) <;> (conv => whnf)
  · refine ⟨by decide, ?_⟩
    (conv => whnf)
    refine ⟨?_, rfl, rfl⟩
    have h1 : n % 2 = 1 := by have h2 : ((n % 2 : Nat) : Int) = 1 := by simpa using h1
                              omega
    unfold stepP u4
    rw [if_pos h1, show Int.toNat 1 = 1 from rfl, x_shr 1 (by decide)]
    have e := x_xor (a := n / 2 ^ 1) (b := 3988292384) (by omega) (by decide)
    exact congrArg (fun x => SE.ret (pv (.int .u32 x))) e
  · refine ⟨by decide, ?_⟩
    (conv => whnf)
    refine ⟨?_, rfl, rfl⟩
    have h1 : ¬ n % 2 = 1 := by have h2 : ¬ ((n % 2 : Nat) : Int) = 1 := by simpa using h1
                                omega
    unfold stepP u4
    rw [if_neg h1, show Int.toNat 1 = 1 from rfl, x_shr 1 (by decide)]
    rfl
def itS : Nat → Nat → Nat
  | 0, n => n
  | j + 1, n => stepP (itS j n)
theorem itS_lt {n : Nat} (h : n < 4294967296) : ∀ j, itS j n < 4294967296
  | 0 => h
  | j + 1 => step_lt (itS_lt h j)
def runB (n : Nat) : SB := .box 391 [.val (.int .u32 (n : Int))]
theorem take_fold {bs : List UInt8} {i : Nat} (hi : i < bs.length) (s : Nat) : (bs.take (i + 1)).foldl byteP s = byteP ((bs.take i).foldl byteP s) (bs.getD i 0) := by
  rw [List.take_add_one, List.getElem?_eq_getElem hi, List.foldl_append, List.getD_eq_getElem?_getD, List.getElem?_eq_getElem hi]
  rfl
theorem fold_lt {l : List UInt8} {s : Nat} (h : s < 4294967296) : l.foldl byteP s < 4294967296 := by
  induction l generalizing s with
  | nil => exact h
  | cons c r ih => exact ih (byte_lt h c)
theorem write_ (s : Nat) (hs : s < 4294967296) (A : Option Addr) (n cap : Nat) (bs : List UInt8) (H : Hp) (hb : SlAt H A n cap bs) (hn : n ≤ 1000000000) :
    CallO Tryz.prog 278 [.si (.ce (.ptr 0 0)), pv (.slice A n cap)] H [runB s] fun e H' G' => e = .ret (.tu []) ∧ H' = H ∧ G' = [runB (bs.foldl byteP s)] := by
  refine CallO.of_body tab Tryz.func278 rfl (nt := Tryz.f278.ntmps) rfl (by kernel_rfl) ?_
  (conv => whnf)
  refine WS.loop (fun k' F H4 G => ∃ i : Nat, i ≤ n ∧ k' = n - i ∧ F = [(0, .si (.ce (.ptr 0 0))), (4, u4 ((bs.take i).foldl byteP s)), (11, pv (.slice A n cap)), (12, pv (.int .i64 n)), (13, pv (.int .i64 i))] ∧ H4 = H ∧ G = [runB s]) (n + 1) ?_ ?_
  · refine ⟨n, by omega, _, _, [0], ⟨0, by omega, rfl, rfl, rfl, rfl⟩, ?_⟩
    exact ⟨rfl, ⟨rfl, trivial⟩, rfl, rfl, rfl, rfl, rfl, trivial⟩
  rintro k' F H4 G hle4 ⟨i, hi, rfl, rfl, rfl, rfl⟩
  refine codeL.go tab ?_
  (conv => whnf)
  refine br.of (fun h1 => ?_) (fun h1 => ?_) <;> (conv => whnf)
  · have h1 := of_decide_eq_true h1
    have hil : i < n := by omega
    have hib : i < bs.length := by rw [← hb.len]; exact hil
    refine ⟨⟨by omega, by omega⟩, hb.addr (by omega), ?_⟩
    (conv => whnf)
    refine ⟨_, hb.get hil (by show (i : Int).toNat * 1 = i; omega), ?_⟩
    (conv => whnf)
    have hlt := fold_lt (l := bs.take i) hs
    have hbl : byteN bs i < 256 := (bs.getD i 0).toNat_lt
    have e1 : IntKind.u32.wrap ((byteN bs i : Nat) : Int) = ((byteN bs i : Nat) : Int) := w32 (by omega) (by omega)
    rw [e1, x_xor hlt (by omega)]
    generalize hm : (bs.take i).foldl byteP s ^^^ byteN bs i = m
    have hml : m < 4294967296 := by
      rw [← hm]
      have : (bs.take i).foldl byteP s ^^^ byteN bs i < 2 ^ 32 := Nat.xor_lt_two_pow (by omega) (by omega)
      omega
    refine WS.loop (fun k' F H5 G => ∃ j : Nat, j ≤ 8 ∧ k' = 8 - j ∧ F = [(0, .si (.ce (.ptr 0 0))), (4, u4 (itS j m)), (11, pv (.slice A n cap)), (12, pv (.int .i64 n)), (13, pv (.int .i64 i)), (21, pv (.int .i64 j))] ∧ H5 = H4 ∧ G = [runB s]) 9 ?_ ?_
    · refine ⟨8, by omega, _, _, [0], ⟨0, by omega, rfl, rfl, rfl, rfl⟩, ?_⟩
      exact ⟨rfl, ⟨rfl, trivial⟩, rfl, rfl, rfl, rfl, rfl, rfl, trivial⟩
    rintro k' F H5 G hle5 ⟨j, hj, rfl, rfl, rfl, rfl⟩
    refine codeL.go tab ?_
    (conv => whnf)
    refine br.of (fun h2 => ?_) (fun h2 => ?_) <;> (conv => whnf)
    · have h2 := of_decide_eq_true h2
      refine ⟨⟨_, Tryz.func322, rfl, by kernel_rfl⟩, CallS.use (step_ (itS j m) (itS_lt hml j) _) [] rfl rfl trivial ?_⟩
      rintro e H6 G' hle6 ⟨rfl, rfl, rfl⟩
      (conv => whnf)
      rw [wrap64 (x := (j : Int) + 1) (by omega) (by omega)]
      refine ⟨8 - (j + 1), by omega, _, _, [0], ⟨j + 1, by omega, rfl, rfl, rfl, rfl⟩, ?_⟩
      exact ⟨rfl, ⟨rfl, trivial⟩, rfl, rfl, rfl, rfl, rfl, rfl, trivial⟩
    · have h2 := of_decide_eq_false h2
      obtain rfl : j = 8 := by omega
      rw [wrap64 (x := (i : Int) + 1) (by omega) (by omega)]
      have e8 : itS 8 m = (bs.take (i + 1)).foldl byteP s := by rw [take_fold hib, ← hm]; rfl
      rw [e8]
      refine ⟨n - (i + 1), by omega, _, _, [0], ⟨i + 1, by omega, rfl, rfl, rfl, rfl⟩, ?_⟩
      exact ⟨rfl, ⟨rfl, trivial⟩, rfl, rfl, rfl, rfl, rfl, trivial⟩
  · have h1 := of_decide_eq_false h1
    obtain rfl : i = n := by omega
    rw [hb.len, List.take_length]
    exact ⟨rfl, rfl, rfl⟩
theorem x_not {a : Nat} (ha : a < 4294967296) : IntKind.u32.wrap ((BitVec.ofInt IntKind.u32.bits (if IntKind.u32.signed = true then -1 else IntKind.u32.max) ^^^ BitVec.ofInt IntKind.u32.bits (a : Int)).toNat : Int) = ((4294967295 - a : Nat) : Int) := by
  rw [ofI, show BitVec.ofInt IntKind.u32.bits (if IntKind.u32.signed = true then -1 else IntKind.u32.max) = BitVec.allOnes 32 from (show BitVec.ofInt 32 4294967295 = BitVec.allOnes 32 by decide)]
  show IntKind.u32.wrap ((BitVec.allOnes 32 ^^^ BitVec.ofNat 32 a : BitVec 32).toNat : Int) = _
  rw [BitVec.allOnes_xor, BitVec.toNat_not, BitVec.toNat_ofNat, Nat.mod_eq_of_lt ha]
  exact w32 (by omega) (by omega)
theorem sum_ (s : Nat) (hs : s < 4294967296) (H : Hp) : CallO Tryz.prog 279 [.si (.ce (.ptr 0 0))] H [runB s] fun e H' G' => e = .ret (u4 (4294967295 - s)) ∧ H' = H ∧ G' = [runB s] := by
  refine CallO.of_body tab Tryz.func279 rfl (nt := Tryz.f279.ntmps) rfl (by kernel_rfl) ?_
  (conv => whnf)
  rw [x_not hs]
  exact ⟨rfl, rfl, rfl⟩
structure PartsAt (H : Hp) (A : Option Addr) (n : Nat) (ps : List (List UInt8)) : Prop where
  len : n = ps.length
  rd : ∀ i p, ps[i]? = some p → p.length ≤ 1000000000 ∧ ∃ b o B m c, A = some ⟨b, o, none⟩ ∧ H b (o + i) = some (.slice B m c) ∧ SlAt H B m c p
theorem PartsAt.mono {H H' : Hp} {A : Option Addr} {n : Nat} {ps : List (List UInt8)} (h : PartsAt H A n ps) (hle : H.Le H') : PartsAt H' A n ps :=
  ⟨h.len, fun i p hp => let ⟨h1, b, o, B, m, c, h2, h3, h4⟩ := h.rd i p hp; ⟨h1, b, o, B, m, c, h2, hle _ _ _ h3, h4.mono hle⟩⟩
theorem fold_next {ps : List (List UInt8)} {i : Nat} {p : List UInt8} (hi : ps[i]? = some p) (s : Nat) : p.foldl byteP ((ps.take i).flatten.foldl byteP s) = (ps.take (i + 1)).flatten.foldl byteP s := by
  rw [List.take_add_one, hi, List.flatten_append, List.foldl_append]
  simp
theorem new_ (H : Hp) : CallO Tryz.prog 277 [] H [] fun e H' G' => e = .ret (.si (.ce (.ptr 0 0))) ∧ H' = H ∧ G' = [runB 4294967295] := by
  refine CallO.of_body tab Tryz.func277 rfl (nt := Tryz.f277.ntmps) rfl (by kernel_rfl) ?_
  (conv => whnf)
  exact ⟨rfl, rfl, rfl⟩
theorem sums_ (A : Option Addr) (n cap : Nat) (ps : List (List UInt8)) (H : Hp) (hp : PartsAt H A n ps) (hn : n ≤ 1000) :
    CallO Tryz.prog 209 [pv (.slice A n cap)] H [] fun e H' G' => e = .ret (u4 (crcP ps.flatten)) ∧ H' = H ∧ G' = [] := by
  refine CallO.of_body tab Tryz.func209 rfl (nt := Tryz.f209.ntmps) rfl (by kernel_rfl) ?_
  (conv => whnf)
  refine ⟨⟨_, Tryz.func277, rfl, by kernel_rfl⟩, CallS.use (new_ H) [] rfl rfl trivial ?_⟩
  rintro e H2 G' hle2 ⟨rfl, rfl, rfl⟩
  (conv => whnf)
  refine WS.loop (fun k' F H4 G => ∃ i : Nat, i ≤ n ∧ k' = n - i ∧ F = [(3, .si (.ce (.ptr 0 0))), (4, .si (.ce (.fn (.func 278) 1 [(0, 0)]))), (10, pv (.slice A n cap)), (11, pv (.int .i64 n)), (12, pv (.int .i64 i))] ∧ H4 = H2 ∧ G = [runB ((ps.take i).flatten.foldl byteP 4294967295)]) (n + 1) ?_ ?_
  · refine ⟨n, by omega, _, _, [0], ⟨0, by omega, rfl, rfl, rfl, rfl⟩, ?_⟩
    exact ⟨rfl, ⟨rfl, trivial⟩, rfl, rfl, rfl, rfl, rfl, trivial⟩
  rintro k' F H4 G hle4 ⟨i, hi, rfl, rfl, rfl, rfl⟩
  refine codeL.go tab ?_
  (conv => whnf)
  refine br.of (fun h1 => ?_) (fun h1 => ?_) <;> (conv => whnf)
  · have h1 := of_decide_eq_true h1
    have hil : i < ps.length := by rw [← hp.len]; omega
    have hget : ps[i]? = some ps[i] := List.getElem?_eq_getElem hil
    generalize ps[i] = p at hget
    obtain ⟨hpl, b, o, B, m, c, rfl, hc, hsl⟩ := hp.rd i p hget
    refine ⟨⟨by omega, by omega⟩, ⟨_, _, rfl⟩, ?_⟩
    (conv => whnf)
    refine ⟨_, ⟨b, o, rfl, (show H4 b (o + (i : Int).toNat * 1) = _ by rw [show (i : Int).toNat * 1 = i by omega]; exact hc)⟩, ?_⟩
    (conv => whnf)
    refine ⟨⟨_, Tryz.func278, rfl, by kernel_rfl⟩, CallS.use (write_ _ (fold_lt (l := (ps.take i).flatten) (by decide)) B m c p H4 hsl (by rw [hsl.len]; exact hpl)) [0] rfl rfl ⟨rfl, trivial⟩ ?_⟩
    rintro e H6 G' hle6 ⟨rfl, rfl, rfl⟩
    (conv => whnf)
    rw [wrap64 (x := (i : Int) + 1) (by omega) (by omega), fold_next hget]
    refine ⟨n - (i + 1), by omega, _, _, [0], ⟨i + 1, by omega, rfl, rfl, rfl, rfl⟩, ?_⟩
    exact ⟨rfl, ⟨rfl, trivial⟩, rfl, rfl, rfl, rfl, rfl, trivial⟩
  · have h1 := of_decide_eq_false h1
    obtain rfl : i = n := by omega
    rw [hp.len, List.take_length]
    refine ⟨⟨_, Tryz.func279, rfl, by kernel_rfl⟩, CallS.use (sum_ _ (fold_lt (l := ps.flatten) (by decide)) H4) [0] rfl rfl ⟨rfl, trivial⟩ ?_⟩
    rintro e H6 G' hle6 ⟨rfl, rfl, rfl⟩
    (conv => whnf)
    exact ⟨rfl, rfl, rfl⟩
theorem w8 (a : Nat) : IntKind.u8.wrap (a : Int) = ((UInt8.ofNat a).toNat : Int) := by
  rw [UInt8.toNat_ofNat']
  simp only [IntKind.wrap, IntKind.bits, IntKind.signed]; simp
theorem put_ (n : Nat) (H : Hp) : CallO Tryz.prog 224 [u4 n] H [] fun e H' G' => RetS (be4 n) e H' ∧ G' = [] := by
  refine CallO.of_body tab Tryz.func224 rfl (nt := Tryz.f224.ntmps) rfl (by kernel_rfl) ?_
  (conv => whnf)
  refine ⟨by decide, ?_⟩
  (conv => whnf)
  refine ⟨by decide, ?_⟩
  (conv => whnf)
  refine ⟨by decide, ?_⟩
  (conv => whnf)
  refine ⟨by decide, .inl ?_⟩
  intro g H2 hle hrd
  (conv => whnf)
  rw [show Int.toNat 24 = 24 from rfl, show Int.toNat 16 = 16 from rfl, show Int.toNat 8 = 8 from rfl, x_shr 24 (by decide), x_shr 16 (by decide), x_shr 8 (by decide), w8, w8, w8, w8] at hrd
  exact ⟨⟨_, _, _, rfl, rfl, Nat.le_refl _, .inr ⟨g, 0, rfl, hrd⟩⟩, rfl⟩
theorem x_shl {a : Nat} (ha : a < 16777216) : IntKind.u32.wrap ((a : Int) * 2 ^ min 8 IntKind.u32.bits) = ((a * 256 : Nat) : Int) := by
  rw [show (2 : Int) ^ min 8 IntKind.u32.bits = 256 by decide]
  rw [w32 (by omega) (by omega)]
  omega
theorem x_or {a c : Nat} (ha : a < 16777216) (hc : c < 256) : IntKind.u32.wrap ((BitVec.ofInt IntKind.u32.bits ((a * 256 : Nat) : Int) ||| BitVec.ofInt IntKind.u32.bits (c : Int)).toNat : Int) = ((a * 256 + c : Nat) : Int) := by
  rw [ofI, ofI]
  show IntKind.u32.wrap ((BitVec.ofNat 32 (a * 256) ||| BitVec.ofNat 32 c : BitVec 32).toNat : Int) = _
  rw [BitVec.toNat_or, BitVec.toNat_ofNat, BitVec.toNat_ofNat, Nat.mod_eq_of_lt (by omega), Nat.mod_eq_of_lt (by omega)]
  have e : a * 256 ||| c = a * 256 + c := by
    have := Nat.shiftLeft_add_eq_or_of_lt (i := 8) (b := c) (by omega) a
    rw [Nat.shiftLeft_eq] at this
    exact this.symm
  rw [e]
  exact w32 (by omega) (by omega)
theorem num4_take (bs : List UInt8) : ∀ i, num4 (bs.take i) < 256 ^ i
  | 0 => by simp [num4]
  | i + 1 => by
    have ih := num4_take bs i
    rw [List.take_add_one]
    cases h : bs[i]? with
    | none => simp only [Option.toList_none, List.append_nil]; rw [Nat.pow_succ]; omega
    | some c =>
      unfold num4 at ih ⊢
      rw [List.foldl_append]
      have := c.toNat_lt
      simp only [Option.toList_some, List.foldl_cons, List.foldl_nil]
      rw [Nat.pow_succ]
      omega
theorem num4_next {bs : List UInt8} {i : Nat} (hi : i < bs.length) : num4 (bs.take i) * 256 + byteN bs i = num4 (bs.take (i + 1)) := by
  unfold num4 byteN
  rw [List.take_add_one, List.getElem?_eq_getElem hi, List.foldl_append, List.getD_eq_getElem?_getD, List.getElem?_eq_getElem hi]
  rfl
theorem get_ (A : Option Addr) (cap : Nat) (bs : List UInt8) (H : Hp) (hb : SlAt H A 4 cap bs) : CallO Tryz.prog 208 [pv (.slice A 4 cap)] H [] fun e H' G' => e = .ret (.tu [.ce (.val (.int .u32 (num4 bs : Int))), .ce (.val (.int .i64 0))]) ∧ H' = H ∧ G' = [] := by
  refine CallO.of_body tab Tryz.func208 rfl (nt := Tryz.f208.ntmps) rfl (by kernel_rfl) ?_
  (conv => whnf)
  have hb4 : bs.length = 4 := hb.len.symm
  refine WS.loop (fun k' F H4 G => ∃ i : Nat, i ≤ 4 ∧ k' = 4 - i ∧ F = [(4, u4 (num4 (bs.take i))), (10, pv (.slice A 4 cap)), (11, pv (.int .i64 4)), (12, pv (.int .i64 i))] ∧ H4 = H ∧ G = []) 5 ?_ ?_
  · refine ⟨4, by omega, _, _, [], ⟨0, by omega, rfl, rfl, rfl, rfl⟩, ?_⟩
    exact ⟨rfl, trivial, rfl, rfl, rfl, rfl, trivial⟩
  rintro k' F H4 G hle4 ⟨i, hi, rfl, rfl, rfl, rfl⟩
  refine codeL.go tab ?_
  (conv => whnf)
  refine br.of (fun h1 => ?_) (fun h1 => ?_) <;> (conv => whnf)
  · have h1 := of_decide_eq_true h1
    have hil : i < 4 := by omega
    refine ⟨⟨by omega, by omega⟩, hb.addr (by omega), ?_⟩
    (conv => whnf)
    refine ⟨_, hb.get hil (by show (i : Int).toNat * 1 = i; omega), ?_⟩
    (conv => whnf)
    refine ⟨by decide, ?_⟩
    (conv => whnf)
    have hbl : byteN bs i < 256 := (bs.getD i 0).toNat_lt
    have e1 : IntKind.u32.wrap ((byteN bs i : Nat) : Int) = ((byteN bs i : Nat) : Int) := w32 (by omega) (by omega)
    have hv : num4 (bs.take i) < 16777216 := by
      have := num4_take bs i
      have h3 : 256 ^ i ≤ 256 ^ 3 := Nat.pow_le_pow_right (by decide) (by omega)
      omega
    rw [e1, show Int.toNat 8 = 8 from rfl, x_shl hv, x_or (by omega) hbl, num4_next (by omega)]
    rw [wrap64 (x := (i : Int) + 1) (by omega) (by omega)]
    refine ⟨4 - (i + 1), by omega, _, _, [], ⟨i + 1, by omega, rfl, rfl, rfl, rfl⟩, ?_⟩
    exact ⟨rfl, trivial, rfl, rfl, rfl, rfl, trivial⟩
  · have h1 := of_decide_eq_false h1
    obtain rfl : i = 4 := by omega
    rw [← hb4, List.take_length]
    exact ⟨rfl, rfl, rfl⟩
end Go.Kx.Cr
namespace Go.Kx.Dk
open Go.Proofs Go.Kx Go.RowKit Go.Kx.Wl
set_option maxRecDepth 20000
set_option linter.unusedSimpArgs false
def T : Tab := [(5, { k := TK.int IntKind.u8, agg := false, size := 1, bytes := 1, zero := [Z.i IntKind.u8] }), (94, { k := TK.slice 5, agg := false, size := 1, bytes := 24, zero := [Z.sl] }), (96, { k := TK.st [(0, 94, 1), (1, 4, 1), (2, 4, 1), (3, 93, 2), (5, 3, 1)], agg := true, size := 6, bytes := 56, zero := [Z.sl, Z.b, Z.b, Z.i IntKind.i64, Z.i IntKind.i64, Z.i IntKind.i64] }), (93, { k := TK.st [(0, 3, 1), (1, 3, 1)], agg := true, size := 2, bytes := 16, zero := [Z.i IntKind.i64, Z.i IntKind.i64] }), (4, { k := TK.bool, agg := false, size := 1, bytes := 1, zero := [Z.b] }), (3, { k := TK.int IntKind.i64, agg := false, size := 1, bytes := 8, zero := [Z.i IntKind.i64] }), (25, { k := TK.ptr 96, agg := false, size := 1, bytes := 8, zero := [Z.p] }), (30, { k := TK.int IntKind.i64, agg := false, size := 1, bytes := 8, zero := [Z.i IntKind.i64] })]
set_option maxRecDepth 100000 in
theorem tab : TabOk Tryz.prog T := tabOk_mk (ts := [5, 94, 96, 93, 4, 3, 25, 30]) (by kernel_rfl)
theorem mixed : Tryz.prog.follows .mixedOrders = true := by kernel_rfl
theorem room_ (n : Nat) (hn : n ≤ 140737488355328) : (0 + n) * (1 + 1) ≤ 140737488355328 + (0 + n) * Nat.min 1 1 := by
 have : Nat.min 1 1 = 1 := rfl
 rw [this]
 omega
section
variable {P : Program} {n e : Nat} {D : Pin}
theorem veilS {c : Code} {K : KT} {F : Fr} {H : Hp} {G : List SB} (i : Nat) (x : Value) (hi : getX F i fun sv => sv = pv x) (h : codeL P n e D c K ((i, .si (.ce (.self G.length))) :: F) H (G ++ [.frz x])) : codeL P n e D c K F H G := by
 obtain ⟨sv, h1, h2⟩ := getX_ok hi
 subst h2
 refine ⟨fun w0 M hgd H0 ρ a w hs hf hd hn => ?_⟩
 have hs' := hs.adopt (s := .frz x) (r := x) rfl (fun g hg => by cases hg)
 obtain ⟨v, h3, h4⟩ := hf i _ h1
 have h4' : v = x := h4
 subst h4'
 refine wp_mono (h.to w0 M hgd H0 _ a w hs' ?_ hd hn) (PostX.le (Pre.append _ _).toE (.refl _))
 intro j sv hm
 rcases List.mem_cons.1 hm with hm | hm
 ·injection hm with e1 e2; subst e1 e2
  refine ⟨_, h3, ?_⟩
  show (ρ ++ [v])[G.length]? = some _
  rw [← hs.len]; simp
 ·exact (hf.mono (Pre.append _ _)) j sv hm
end
theorem clone1 (bs : List UInt8) (A : Option Addr) (n cap : Nat) (H : Hp) (hb : SlAt H A n cap bs) (h0 : 0 < n) (hn : n ≤ 140737488355328) :
  CallO Tryz.prog 138 [pv (.slice A n cap)] H [] fun e _ G' => e = .ret (.si (.ce (.self 0))) ∧ G' = [.row 5 1 n (bCells bs)] := by
 obtain ⟨b, o, rfl, hrd⟩ := hb.at_ h0
 refine CallO.of_body tab Tryz.func138 rfl (nt := Tryz.f138.ntmps) rfl (by kernel_rfl) ?_
 (conv => whnf)
 refine ⟨by decide, .inl ?_⟩
 intro g H2 hle hrd2
 (conv => whnf)
 refine ⟨bCells bs, by rw [bCells_length, hb.len]; exact (Nat.mul_one _).symm, hrd.mono hle, bCells_one bs, fun h => absurd h (by omega), fun _ => ⟨rfl, [], rfl, hrd2, room_ n hn, ?_⟩⟩
 (conv => whnf)
 exact ⟨rfl, by rw [Nat.zero_add]; rfl⟩
theorem cloneS (bs : List UInt8) (A : Option Addr) (n cap : Nat) (H : Hp) (hb : SlAt H A n cap bs) (hn : n ≤ 140737488355328) :
  CallO Tryz.prog 138 [pv (.slice A n cap)] H [] fun e H' G' => RetS bs e H' ∧ G' = [] := by
 by_cases h0 : 0 < n
 ·exact CallO.slice hb.len (clone1 bs A n cap H hb h0 hn)
 ·obtain rfl : n = 0 := by omega
  obtain rfl : bs = [] := List.eq_nil_of_length_eq_zero hb.len.symm
  cases A with
  | none =>
   refine CallO.of_body tab Tryz.func138 rfl (nt := Tryz.f138.ntmps) rfl (by kernel_rfl) ?_
   (conv => whnf)
   exact ⟨⟨none, 0, 0, rfl, .nul⟩, rfl⟩
  | some a =>
   refine CallO.of_bodyW tab Tryz.func138 rfl (nt := Tryz.f138.ntmps) rfl (by kernel_rfl) ?_
   refine (codeL.cutTo tab 2 (fun F H' G => H' = H ∧ F = [(0, pv (.slice (some a) 0 cap))] ∧ G = []) ?_ ?_).to
   ·(conv => whnf)
    exact ⟨_, _, [], ⟨rfl, rfl, rfl⟩, rfl, trivial, rfl, trivial⟩
   rintro F H1 G _ ⟨rfl, rfl, rfl⟩
   refine veilS 0 (.slice (some a) 0 cap) rfl ?_
   refine codeL.go tab ?_
   (conv => whnf)
   refine ⟨by decide, .inl ?_⟩
   intro g H2 hle hrd
   (conv => whnf)
   refine ⟨fun _ => ⟨by decide, ⟨_, _, rfl⟩, ?_⟩, fun h => absurd h (by decide)⟩
   (conv => whnf)
   exact ⟨⟨_, _, _, rfl, .nil⟩, rfl⟩
def diskB (d : Dk) : SB := .box 96 [.cut 0 1 0 d.bs.length, .val (.bool d.down), .val (.bool d.lit), .val (.int .i64 d.fw), .val (.int .i64 d.fb), .val (.int .i64 d.wr)]
def dataB (d : Dk) : SB := .row 5 1 d.bs.length (bCells d.bs)
def diskG (d : Dk) : List SB := [dataB d, diskB d]
abbrev dP : SV := .si (.ce (.ptr 1 0))
theorem size_ (d : Dk) (H : Hp) : CallO Tryz.prog 285 [dP] H (diskG d) fun e H' G' => e = .ret (pv (.int .i64 d.bs.length)) ∧ H' = H ∧ G' = diskG d := by
 refine CallO.of_body tab Tryz.func285 rfl (nt := Tryz.f285.ntmps) rfl (by kernel_rfl) ?_
 (conv => whnf)
 exact ⟨rfl, rfl, rfl⟩
theorem up_ (d : Dk) (H : Hp) : CallO Tryz.prog 143 [dP] H (diskG d) fun e H' G' => e = .ret (pv (.bool (!d.down))) ∧ H' = H ∧ G' = diskG d := by
 refine CallO.of_body tab Tryz.func143 rfl (nt := Tryz.f143.ntmps) rfl (by kernel_rfl) ?_
 (conv => whnf)
 exact ⟨rfl, rfl, rfl⟩
theorem may_ (d : Dk) (a n : Nat) (h : a + n ≤ d.bs.length) (hl : d.bs.length ≤ 1048576) (H : Hp) : CallO Tryz.prog 286 [dP, pv (.int .i64 a), pv (.int .i64 n)] H (diskG d) fun e H' G' => e = .ret (pv (.int .i64 (if d.down = true then 20 else 0))) ∧ H' = H ∧ G' = diskG d := by
 obtain ⟨bs, down, lit, fw, fb, wr⟩ := d
 dsimp only at h hl ⊢
 refine CallO.of_body tab Tryz.func286 rfl (nt := Tryz.f286.ntmps) rfl (by kernel_rfl) ?_
 (conv => whnf)
 cases down
 ·(conv => whnf)
  refine br.of (fun h1 => by have h1 := of_decide_eq_true h1; dsimp only at h1; omega) (fun h1 => ?_)
  (conv => whnf)
  refine br.of (fun h2 => by have h2 := of_decide_eq_true h2; dsimp only at h2; rw [wrap64 (by omega) (by omega)] at h2; omega) (fun h2 => ?_)
  (conv => whnf)
  exact ⟨rfl, rfl, rfl⟩
 ·(conv => whnf)
  exact ⟨rfl, rfl, rfl⟩
theorem burn_ (d : Dk) (H : Hp) (hf : d.lit = true → -9223372036854775807 ≤ d.fw ∧ d.fw ≤ 9223372036854775807) : CallO Tryz.prog 287 [dP] H (diskG d) fun e H' G' =>
  (d.lit = false → e = .ret (pv (.bool true)) ∧ G' = diskG d) ∧ (d.lit = true → e = .ret (pv (.bool (decide (0 ≤ d.fw - 1)))) ∧ G' = diskG { d with fw := d.fw - 1 }) ∧ H' = H := by
 obtain ⟨bs, down, lit, fw, fb, wr⟩ := d
 dsimp only at hf ⊢
 refine CallO.of_body tab Tryz.func287 rfl (nt := Tryz.f287.ntmps) rfl (by kernel_rfl) ?_
 (conv => whnf)
 cases lit
 ·(conv => whnf)
  exact ⟨fun _ => ⟨rfl, rfl⟩, fun h => (nomatch h), rfl⟩
 ·(conv => whnf)
  obtain ⟨f1, f2⟩ := hf rfl
  rw [wrap64 (x := fw - 1) (by omega) (by omega)]
  exact ⟨fun h => (nomatch h), fun _ => ⟨rfl, rfl⟩, rfl⟩
theorem clonePiece (D : List UInt8) (a n : Nat) (h : a + n ≤ D.length) (h0 : 0 < n) (hl : D.length ≤ 140737488355328) (H : Hp) :
  CallO Tryz.prog 138 [.si (.ce (.cut 0 1 a n))] H [.row 5 1 D.length (bCells D)] fun e _ G' => e = .ret (.si (.ce (.self 1))) ∧ G' = [.row 5 1 D.length (bCells D), .row 5 1 n (bCells ((D.drop a).take n))] := by
 refine CallO.lend 0 rfl (fun h1 => by omega) fun x H1 hle hfr => ?_
 obtain ⟨A, cap, rfl, hsl⟩ := SlAt.of_frozen rfl hfr
 have hp := hsl.piece (l := a) (u := a + n) (by omega) h
 rw [Nat.add_sub_cancel_left] at hp
 have hc := clone1 _ _ n _ H1 hp h0 (by omega)
 have hcv : cutV (.slice A D.length cap) 1 a n = some (.slice (subA A cap a 1) n (cap - a)) := if_pos h
 show CallO _ _ [.si (.ce (match cutV (.slice A D.length cap) 1 a n with
   | some y => .val y
   | none => .any))] H1 [.dead] _
 rw [hcv]
 refine CallO.frame hc [] rfl (fun i s hi => by simp at hi) List.nodup_nil rfl rfl ?_
 rintro e H' G' hle' ⟨rfl, rfl⟩
 exact ⟨[.row 5 1 D.length (bCells D), .row 5 1 n (bCells ((D.drop a).take n))], rfl, rfl, fun s hs => by
  simp at hs
  rcases hs with rfl | rfl <;> trivial, .si (.ce (.self 1)), rfl, trivial, rfl, rfl⟩
theorem read_ (d : Dk) (a n : Nat) (h : a + n ≤ d.bs.length) (hl : d.bs.length ≤ 1048576) (h0 : 0 < n) (hd : d.down = false) (H : Hp) :
  CallO Tryz.prog 276 [dP, pv (.int .i64 a), pv (.int .i64 n)] H (diskG d) fun e _ G' => e = .ret (.tu [.ce (.self 2), .ce (.val (.int .i64 0))]) ∧ G' = diskG d ++ [.row 5 1 n (bCells ((d.bs.drop a).take n))] := by
 have hm := may_ d a n h hl H
 have hc := clonePiece d.bs a n h h0 (by omega)
 rw [hd, if_neg (by decide)] at hm
 refine CallO.of_body tab Tryz.func276 rfl (nt := Tryz.f276.ntmps) rfl (by kernel_rfl) ?_
 (conv => whnf)
 refine ⟨⟨_, Tryz.func286, rfl, by kernel_rfl⟩, CallS.use hm [0, 1] rfl rfl ⟨rfl, rfl, trivial⟩ ?_⟩
 rintro e H2 G' hle2 ⟨rfl, rfl, rfl⟩
 (conv => whnf)
 have e1 : IntKind.i64.wrap ((a : Int) + n) = ((a + n : Nat) : Int) := by rw [wrap64 (by omega) (by omega)]; omega
 rw [e1]
 refine ⟨⟨by omega, by omega, by omega⟩, ?_⟩
 (conv => whnf)
 have e2 : Int.toNat ((a + n : Nat) : Int) - Int.toNat (a : Int) = n := by omega
 rw [e2, Int.toNat_natCast]
 refine ⟨⟨_, Tryz.func138, rfl, by kernel_rfl⟩, CallS.use (hc H2) [0] rfl rfl ⟨rfl, trivial⟩ ?_⟩
 rintro e H3 G' hle3 ⟨rfl, rfl⟩
 (conv => whnf)
 exact ⟨rfl, rfl⟩
theorem diskG_ow (d : Dk) (a : Nat) (b : List UInt8) (h : a + b.length ≤ d.bs.length) (down lit : Bool) (fw fb wr : Int) : diskG ⟨ow d.bs a b, down, lit, fw, fb, wr⟩ = [.row 5 1 d.bs.length (splice (bCells d.bs) (a * 1) (bCells b)), .box 96 [.cut 0 1 0 d.bs.length, .val (.bool down), .val (.bool lit), .val (.int .i64 fw), .val (.int .i64 fb), .val (.int .i64 wr)]] := by
 unfold diskG dataB diskB
 rw [ow_len h, splice_ow]
 rfl
theorem write_ (d : Dk) (a : Nat) (A : Option Addr) (n cap : Nat) (b : List UInt8) (h : a + n ≤ d.bs.length) (hl : d.bs.length ≤ 1048576) (h0 : 0 < n) (hf : d.lit = true → 0 ≤ d.fb ∧ -9223372036854775807 ≤ d.fw ∧ d.fw ≤ 9223372036854775807) (H : Hp) (hb : SlAt H A n cap b) :
  CallO Tryz.prog 217 [dP, pv (.int .i64 a), pv (.slice A n cap)] H (diskG d) fun e H' G' => e = .ret (pv (.int .i64 (if (wrP d a b).2 = true then 0 else 20))) ∧ H' = H ∧ ∃ wr, G' = diskG { (wrP d a b).1 with wr := wr } := by
 have hm := may_ d a n h hl H
 refine CallO.of_body tab Tryz.func217 rfl (nt := Tryz.f217.ntmps) rfl (by kernel_rfl) ?_
 (conv => whnf)
 refine ⟨⟨_, Tryz.func286, rfl, by kernel_rfl⟩, CallS.use hm [0, 1] rfl rfl ⟨rfl, rfl, trivial⟩ ?_⟩
 rintro e H2 G' hle2 ⟨rfl, rfl, rfl⟩
 obtain ⟨bs, down, lit, fw, fb, wr⟩ := d
 dsimp only at h hl hf
 obtain ⟨bb, o, rfl, hrd⟩ := hb.at_ h0
 cases down
 ·(conv => whnf)
  have hbu := burn_ ⟨bs, false, lit, fw, fb, IntKind.i64.wrap (wr + 1)⟩ H2 (fun h => (hf h).2)
  refine ⟨⟨_, Tryz.func287, rfl, by kernel_rfl⟩, CallS.use hbu [0, 1] rfl rfl ⟨rfl, rfl, trivial⟩ ?_⟩
  rintro e H3 G' hle3 ⟨hA, hB, rfl⟩
  cases lit
  ·obtain ⟨rfl, rfl⟩ := hA rfl
   (conv => whnf)
   refine ⟨⟨by omega, by dsimp only; omega⟩, ?_⟩
   (conv => whnf)
   refine ⟨bCells b, by rw [bCells_length, hb.len]; exact (Nat.mul_one _).symm, hrd, bCells_one b, ⟨by show n ≤ bs.length - (a : Int).toNat; omega, by show 0 < bs.length - (a : Int).toNat; omega⟩, ?_⟩
   (conv => whnf)
   refine ⟨rfl, rfl, IntKind.i64.wrap (wr + 1), ?_⟩
   exact (diskG_ow ⟨bs, false, false, fw, fb, wr⟩ a b (by dsimp only; rw [← hb.len]; exact h) false false fw fb _).symm
  ·obtain ⟨f0, f1, f2⟩ := hf rfl
   obtain ⟨rfl, rfl⟩ := hB rfl
   dsimp only
   cases hg : decide (0 ≤ fw - 1)
   ·(conv => whnf)
    have hw : wrP ⟨bs, false, true, fw, fb, wr⟩ a b = (⟨ow bs a (b.take (min fb.toNat b.length)), true, true, fw - 1, fb, wr⟩, false) := by
     unfold wrP
     rw [if_neg (by simp), if_neg (by simp), if_neg (of_decide_eq_false hg)]
    rw [hw]
    refine WS.draw tab mixed (.take 0 (.take 1 (.take 2 (.take 3 (.take 4 (.take 6 (.take 7 (.take 8 (.take 9 (.take 10 (.take 11 (.take 12 (.take 13 (.take 14 (.take 15 (.alt 5 (.alt 16 .done .no) .no)))))))))))))))) (by kernel_rfl) [0] ?_
    (conv => whnf)
    dsimp only
    generalize hmm : minB fb (n : Int) = q
    have hq : 0 ≤ q ∧ q ≤ n ∧ q.toNat = min fb.toNat b.length := by
     rw [← hmm, ← hb.len]
     unfold minB
     split <;> omega
    obtain ⟨q0, q1, q2⟩ := hq
    refine ⟨⟨by omega, q0, by have := hb.room; omega⟩, ?_⟩
    (conv => whnf)
    have hsu : subA (some ⟨bb, o, none⟩) cap (Int.toNat 0) 1 = some ⟨bb, o, none⟩ := by
     unfold subA
     split
     ·rfl
     ·rw [Option.map_some, Addr.add_lit]
      rfl
    have htk : (b.take q.toNat).length = q.toNat := by rw [List.length_take, q2]; omega
    refine And.intro ?_ trivial
    refine ⟨⟨by omega, by omega⟩, ?_⟩
    (conv => whnf)
    refine ⟨⟨trivial, rfl, trivial⟩, ?_⟩
    (conv => whnf)
    refine And.intro ?_ trivial
    (conv => whnf)
    rw [hsu]
    (conv => whnf)
    refine ⟨bCells (b.take q.toNat), by rw [bCells_length, htk]; show q.toNat = (q.toNat - 0) * 1; omega, ?_, bCells_one _, ⟨by show q.toNat - 0 ≤ bs.length - (a : Int).toNat; omega, by show 0 < bs.length - (a : Int).toNat; omega⟩, ?_⟩
    ·obtain ⟨_, _, e, hr⟩ := hrd
     injection e with e; injection e with e1 e2; subst e1 e2
     refine ⟨_, _, rfl, fun j x hx => hr j x ?_⟩
     unfold bCells at hx ⊢
     rw [List.map_take, List.getElem?_take] at hx
     split at hx
     ·exact hx
     ·cases hx
    (conv => whnf)
    refine ⟨⟨trivial, rfl, trivial⟩, ?_⟩
    (conv => whnf)
    refine ⟨rfl, rfl, IntKind.i64.wrap (wr + 1), ?_⟩
    rw [← q2]
    exact (diskG_ow ⟨bs, false, true, fw, fb, wr⟩ a (b.take q.toNat) (by dsimp only; rw [htk]; have := hb.len; omega) true true (fw - 1) fb _).symm
   ·(conv => whnf)
    have hw : wrP ⟨bs, false, true, fw, fb, wr⟩ a b = (⟨ow bs a b, false, true, fw - 1, fb, wr⟩, true) := by
     unfold wrP
     rw [if_neg (by simp), if_neg (by simp), if_pos (of_decide_eq_true hg)]
    rw [hw]
    refine ⟨⟨by omega, by dsimp only; omega⟩, ?_⟩
    (conv => whnf)
    refine ⟨bCells b, by rw [bCells_length, hb.len]; exact (Nat.mul_one _).symm, hrd, bCells_one b, ⟨by show n ≤ bs.length - (a : Int).toNat; omega, by show 0 < bs.length - (a : Int).toNat; omega⟩, ?_⟩
    (conv => whnf)
    refine ⟨rfl, rfl, IntKind.i64.wrap (wr + 1), ?_⟩
    exact (diskG_ow ⟨bs, false, true, fw, fb, wr⟩ a b (by dsimp only; rw [← hb.len]; exact h) false true (fw - 1) fb _).symm
 ·(conv => whnf)
  exact ⟨rfl, rfl, wr, rfl⟩
theorem zero_cells (n : Nat) : (List.replicate n [Value.int .u8 0]).flatten = bCells (List.replicate n 0) := by
 induction n with
 | zero => rfl
 | succ n ih => rw [List.replicate_succ, List.flatten_cons, ih, List.replicate_succ]; rfl
def dk0 (n : Nat) : Dk := ⟨List.replicate n 0, false, false, 0, 0, 0⟩
theorem new_ (n : Nat) (h1 : 1024 ≤ n) (h2 : n ≤ 1048576) (H : Hp) : CallO Tryz.prog 38 [pv (.int .i64 n)] H [] fun e H' G' => e = .ret (.tu [.ce (.ptr 1 0), .ce (.val (.int .i64 0))]) ∧ H' = H ∧ G' = diskG (dk0 n) := by
 have h0 : CallO Tryz.prog 38 [pv (.int .i64 n)] H [] fun e H' G' => e = .ret (.tu [.ce (.ptr 1 0), .ce (.val (.int .i64 0))]) ∧ H' = H ∧ G' = [.row 5 1 n (bCells (List.replicate n 0)), .box 96 [.self 0, .val (.bool false), .val (.bool false), .val (.int .i64 0), .val (.int .i64 0), .val (.int .i64 0)]] := by
  refine CallO.of_body tab Tryz.func38 rfl (nt := Tryz.f38.ntmps) rfl (by kernel_rfl) ?_
  (conv => whnf)
  refine br.of (fun h => absurd (of_decide_eq_true h) (by omega)) (fun h => ?_)
  (conv => whnf)
  refine br.of (fun h => absurd (of_decide_eq_true h) (by omega)) (fun h => ?_)
  (conv => whnf)
  refine ⟨⟨by omega, by omega, by show ((1 : Nat) : Int) * n ≤ 281474976710656; omega, by omega⟩, ?_⟩
  (conv => whnf)
  exact ⟨rfl, rfl, by rw [← zero_cells]; rfl⟩
 refine CallO.recut h0 ?_
 rintro e H' G' hle ⟨rfl, rfl, rfl⟩
 refine .inl ⟨1, 0, 0, _, _, _, _, _, _, rfl, rfl, rfl, rfl, rfl, ?_⟩
 unfold diskG dataB diskB dk0
 simp only [List.length_replicate]
 rfl
end Go.Kx.Dk
