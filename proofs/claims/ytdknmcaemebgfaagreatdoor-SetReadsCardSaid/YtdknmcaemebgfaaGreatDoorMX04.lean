/- More loud operations of a symbolic walk: make, copy, slicing of a row of one's own, strings to bytes; and bytes to a string. Generic in the program; no condition of its own. -/
import Derived.Test.YtdknmcaemebgfaaGreatDoorMX03
import Derived.Lib.ConvBytes
import Derived.Laws.BytesString
import Derived.Laws.MakeOwn
import Derived.Lib.UnsafeStr
import Derived.OrdersHeld
namespace Go.Kx
open Go.RowKit Go.Lib

section
variable {w0 : World} {M : Nat → Prop} {H0 : Hp} {ρ : List Value} {H : Hp} {G : List SB} {w : World}
theorem St.lay2 (h : St w0 M H0 ρ H G w) {w' : World} (hg : w.grownBy w' none) {H' : Hp} (hle : H.Le H') (hH : ∀ b i v, H' b i = some v → H b i = some v ∨ (b = w.heap.size ∧ w'.cell? ⟨b, i, none⟩ = some v)) : St w0 M H0 ρ H' G w' := by
 have h' := h.grew (ob := none) hg (fun g e => by cases e)
 refine ⟨h'.os, h'.tape, h'.output, h'.size, h'.old, h'.hle.trans hle, ?_, ?_, h'.len, h'.ok, ?_, h'.inj⟩
 ·intro b i v e
  rcases hH b i v e with e | ⟨_, e⟩
  ·exact h'.hin b i v e
  ·exact e
 ·intro b i v e
  rcases hH b i v e with e | ⟨rfl, _⟩
  ·exact h'.hnew b i v e
  ·exact .inr (.inl h.size)
 ·intro k g hk
  refine ⟨(h'.own k g hk).1, fun i => ?_⟩
  cases e : H' g i with
  | none => rfl
  | some v =>
   rcases hH g i v e with e | ⟨e, _⟩
   ·rw [(h'.own k g hk).2 i] at e; cases e
   ·have := h.lt hk; omega
end

section
variable {P : Program}
def s2bX (s : ByteArray) (H : Hp) (K : SV → Hp → Prop) : Prop :=
 ∀ (g cap : Nat) (H' : Hp), H.Le H' → s.size ≤ cap → RdN H' (some ⟨g, 0, none⟩) 0 (byteCells s) → K (pv (.slice (some ⟨g, 0, none⟩) s.size cap)) H'
theorem s2bX_ok {o : Oper} {s d e : TypeId} {x : Operand} (ho : o.op = .convert s d x) {u : TypeDesc} (hs : P.underlying s = some u) (hd : P.underlying d = some (.slice e)) (he : P.underlying e = some (.int .u8)) {F : Fr} {H : Hp} {G : List SB} {K : SV → Hp → List SB → Prop} {Kp : List PanicEntry → Hp → List SB → Prop}
  (h : evX x F fun sx => strX sx fun str => s2bX str H fun sv H' => K sv H' G) : LO P o F H G K Kp := by
 obtain ⟨sx, h1, hx⟩ := evX_ok h
 obtain ⟨str, rfl, h2⟩ := strX_ok h1
 intro w0 M hgd H0 ρ a w hst hf
 have hv : a.eval x = .string str := hx ρ a hf
 have hrun : (execOp a.eval o).run P w = .ok (.value (.slice (some ⟨w.heap.size, 0, none⟩) str.size (grownCap w str.size 0 e))) (bytesWorld w e str) := by
  simp [execOp, ho, hv, run_convert_string_bytes w s d e str hs hd he]
 rw [hrun]
 have hgr : w.grownBy (bytesWorld w e str) none := ⟨rfl, rfl, rfl, by rw [bytesWorld_size]; omega, fun k hk _ => bytesWorld_at_old w e str k hk⟩
 refine ⟨_, ρ, H.put w.heap.size (byteCells str), G, hst.lay2 hgr (Hp.put_le hst.fresh) ?_, .refl _, pv_is _ _, Hp.put_le hst.fresh, h2 w.heap.size _ _ (Hp.put_le hst.fresh) (grownCap_ge w str.size 0 e) Hp.put_rd⟩
 intro b i v ev
 rcases Hp.put_inv ev with e1 | ⟨rfl, e1⟩
 ·exact .inl e1
 ·refine .inr ⟨rfl, ?_⟩
  have hi : i < str.size := by have := (List.getElem?_eq_some_iff.1 e1).1; rw [byteCells_length] at this; exact this
  rw [bytesWorld_cell w e str i hi]
  rw [← e1]
  have hi' : i < str.data.toList.length := by rw [Array.length_toList]; exact hi
  simp [byteCells, List.getD_eq_getElem?_getD, List.getElem?_eq_getElem hi']

theorem foldl_push (l : List UInt8) (acc : ByteArray) : ((l.map fun b => ((b.toNat : Nat) : Int)).foldl (fun r n => r.push (UInt8.ofNat n.toNat)) acc).data.toList = acc.data.toList ++ l := by
 induction l generalizing acc with
 | nil => simp
 | cons b l ih =>
  rw [List.map_cons, List.foldl_cons, ih]
  simp [ByteArray.push]
theorem fold_bytes (s : ByteArray) : (s.data.toList.map fun b => ((b.toNat : Nat) : Int)).foldl (fun r n => r.push (UInt8.ofNat n.toNat)) ByteArray.empty = s := by
 have h := foldl_push s.data.toList ByteArray.empty
 generalize (s.data.toList.map fun b => ((b.toNat : Nat) : Int)).foldl (fun r n => r.push (UInt8.ofNat n.toNat)) ByteArray.empty = t at h
 have h0 : (ByteArray.empty).data.toList = [] := rfl
 rw [h0, List.nil_append] at h
 cases s; cases t
 simp only at h
 rw [Array.toList_inj.1 h]
theorem byteCells_map (s : ByteArray) : byteCells s = (s.data.toList.map fun b => ((b.toNat : Nat) : Int)).map (Value.int .u8) := by
 simp [byteCells]
def b2sX (sx : SV) (H : Hp) (G : List SB) (K : SV → Prop) : Prop :=
 match sx with
 | .si (.ce (.val (.slice A n _))) => match A with
  | none => K (pv (.string ⟨#[]⟩))
  | some a => ∃ bs : ByteArray, bs.size = n ∧ (n = 0 ∨ RdN H (some a) 0 (byteCells bs)) ∧ K (pv (.string bs))
 | .si (.ce (.self k)) => getG G k fun s => match s with
  | .row _ sz _ xs => natEq sz 1 (∃ bs : ByteArray, xs = byteCells bs ∧ K (pv (.string bs)))
  | _ => False
 | _ => False
theorem run_b2s {w : World} {a : Addr} {n cap : Nat} {bs : ByteArray} (hn : bs.size = n) (hc : ∀ (j : Nat) (u : Value), (byteCells bs)[j]? = some u → w.cell? (a.add j) = some u) : (Conv.bytesToString (.slice (some a) n cap)).run P w = .ok (.string bs) w := by
 have hl := run_loadCells_list (P := P) w a (byteCells bs) hc
 rw [byteCells_length, hn, byteCells_map] at hl
 rw [run_bytesToString w a n cap _ hl, fold_bytes]
theorem b2sX_ok {o : Oper} {s d e : TypeId} {x : Operand} (ho : o.op = .convert s d x) (hs : P.underlying s = some (.slice e)) (hd : P.underlying d = some .string) (he : P.underlying e = some (.int .u8)) {F : Fr} {H : Hp} {G : List SB} {K : SV → Prop}
  (h : evX x F fun sx => b2sX sx H G K) : QO P o F H G K := by
 obtain ⟨sx, h1, hx⟩ := evX_ok h
 clear h
 have conv : ∀ (a : Act) (w : World) (r : Value) (A : Option Addr) (n c : Nat), a.eval x = .slice A n c → (Conv.bytesToString (.slice A n c)).run P w = .ok r w → (execOp a.eval o).run P w = .ok (.value r) w := by
  intro a w r A n c e1 e2
  simp [execOp, ho, e1, convert, run_underlying hs, run_underlying hd, run_underlying he, e2, Result.andThen]
 unfold b2sX at h1
 split at h1
 ·rename_i A n c
  split at h1
  ·refine ⟨_, h1, fun ρ a wc hf hw => ⟨_, pv_is _ _, fun w hw' => ?_⟩⟩
   have hv : a.eval x = .slice none n c := hx ρ a hf
   exact conv a w _ _ _ _ hv (by simp [Conv.bytesToString]; rfl)
  ·rename_i aa
   obtain ⟨bs, hn, hrd, h2⟩ := h1
   refine ⟨_, h2, fun ρ a wc hf hw => ⟨_, pv_is _ _, fun w hw' => ?_⟩⟩
   have hv : a.eval x = .slice (some aa) n c := hx ρ a hf
   refine conv a w _ _ _ _ hv (run_b2s hn ?_)
   rcases hrd with h0 | hrd
   ·intro j u hu
    have := (List.getElem?_eq_some_iff.1 hu).1
    rw [byteCells_length] at this
    omega
   ·exact hrd.cells hw'.hin
 ·rename_i k
  obtain ⟨sb, hsb, h2⟩ := getG_ok h1
  clear h1
  split at h2
  ·rename_i e' sz n xs
   obtain ⟨hsz, bs, hbs, h3⟩ := natEq_ok h2
   clear h2
   subst hsz hbs
   refine ⟨_, h3, fun ρ a wc hf hw => ⟨_, pv_is _ _, fun w hw' => ?_⟩⟩
   have hrow := hw'.ok k _ (a.eval x) hsb (hx ρ a hf)
   have hlen := hrow.1
   rw [byteCells_length, Nat.mul_one] at hlen
   rcases hrow.2 with ⟨e1, e2⟩ | ⟨g, o', cap, cur, e1, hg, _⟩
   ·subst e2
    have hz : bs = ⟨#[]⟩ := by
     cases bs with | mk d =>
     have : d.size = 0 := hlen
     rw [Array.eq_empty_of_size_eq_zero this]
    rw [hz]
    exact conv a w _ _ _ _ e1 (by simp [Conv.bytesToString]; rfl)
   ·refine conv a w _ _ _ _ e1 (run_b2s hlen fun j u hu => ?_)
    rw [e1] at hrow
    obtain ⟨g', o2, e3, e4⟩ := row_cell hrow (off := 0) (y := .pointer (some ⟨g, o' + 0, none⟩)) rfl
    injection e3 with e3; injection e3 with e3; injection e3 with e5 e6
    subst e5
    have := e4 j u hu
    rw [Addr.add_lit]
    simp only [Nat.add_zero] at e6
    subst e6
    simpa using this
  ·exact h2.elim
 ·exact h1.elim
def mkX (T : Tab) (t : TypeId) (sl sc : SV) (G : List SB) (K : SV → List SB → Prop) : Prop :=
 tabX T t fun ti => match ti.k with
  | .slice e => tabX T e fun ei => intX sl fun _ l => intX sc fun _ c => (0 ≤ l ∧ l ≤ c ∧ (ei.bytes : Int) * c ≤ 281474976710656 ∧ c ≤ 9223372036854775807) ∧
   appG G (.row e ei.size l.toNat (List.replicate l.toNat (ei.zero.map Z.val)).flatten) fun G' j => K (.si (.ce (.self j))) G'
  | _ => False
theorem madeCells_take (z : Array Value) (n m : Nat) (h : n ≤ m) : (madeCells z (m * z.size)).toList.take (n * z.size) = (List.replicate n z.toList).flatten := by
 have h1 : madeCells z (m * z.size) = ((List.replicate m z.toList).flatten).toArray := zeroCells_rep z m
 rw [h1]
 obtain ⟨d, rfl⟩ : ∃ d, m = n + d := ⟨m - n, by omega⟩
 rw [← List.replicate_append_replicate, List.flatten_append]
 have hl : ((List.replicate n z.toList).flatten).length = n * z.size := by simp
 rw [← hl]
 exact List.take_left
theorem mkX_ok {T : Tab} (hT : TabOk P T) {o : Oper} {t : TypeId} {l c : Operand} (ho : o.op = .makeSlice t l c) {F : Fr} {H : Hp} {G : List SB} {K : SV → Hp → List SB → Prop} {Kp : List PanicEntry → Hp → List SB → Prop}
  (h : evX l F fun sl => evX c F fun sc => mkX T t sl sc G fun sv G' => K sv H G') : LO P o F H G K Kp := by
 obtain ⟨sl, h1, hl⟩ := evX_ok h
 obtain ⟨sc, h2, hc⟩ := evX_ok h1
 clear h h1
 obtain ⟨ti, ht, h⟩ := tabX_ok hT h2
 clear h2
 cases hk : ti.k with
 | slice e =>
  simp only [hk] at h
  obtain ⟨ei, he, h1⟩ := tabX_ok hT h
  obtain ⟨kl, lv, rfl, h2⟩ := intX_ok h1
  obtain ⟨kc, cv, rfl, ⟨hl0, hlc, hby, h63⟩, h4⟩ := intX_ok h2
  have h5 := appG_ok h4
  clear h h1 h2 h4
  obtain ⟨i, z, hi, hi1, hi2, hz, hzc⟩ := he.info
  intro w0 M hgd H0 ρ a w hs hf
  have e1 : a.eval l = .int kl lv := hl ρ a hf
  have e2 : a.eval c = .int kc cv := hc ρ a hf
  have hr := run_make (P := P) w t e i z (ht.slice hk) hi hz kl kc lv cv hl0 hlc (by rw [hi2]; exact hby) h63
  have hrun : (execOp a.eval o).run P w = .ok (.value (.slice (some ⟨w.heap.size, 0, none⟩) lv.toNat cv.toNat)) (w.alloc (.cells (madeCells z.cells (cv.toNat * i.size)) e)) := by
   simp [execOp, ho, e1, e2, hr]
  rw [hrun]
  have hzs : z.cells.size = i.size := by rw [← Array.length_toList, hzc, List.length_map, he.zlen, hi1]
  have hcm : cv.toNat ≤ maxLen := by simp only [maxLen]; omega
  refine ⟨_, ρ ++ [.slice (some ⟨w.heap.size, 0, none⟩) lv.toNat cv.toNat], H, _, hs.new (s := .row e ei.size lv.toNat (List.replicate lv.toNat (ei.zero.map Z.val)).flatten) ⟨by simp [he.zlen], .inr ⟨w.heap.size, 0, cv.toNat, _, rfl, heap_push_new, by omega, hcm, ?_, ?_⟩⟩ rfl, Pre.append _ _, ?_, .refl _, h5⟩
  ·rw [size_madeCells, hi1]; omega
  ·rw [List.drop_zero, ← hzs, ← hi1, ← hzs, madeCells_take _ _ _ (by omega), hzc]
  ·show (ρ ++ [_])[G.length]? = some _
   rw [List.getElem?_append_right (by rw [hs.len]; exact Nat.le_refl _)]
   simp [hs.len]
 | _ => simp only [hk] at h

def copyX (T : Tab) (t tx : TypeId) (sd sx : SV) (H : Hp) (G : List SB) (K : SV → List SB → Prop) : Prop :=
 tabX T t fun ti => match ti.k with
  | .slice e => tabX T e fun ei => srcX T tx ei.size sx H G fun m ys => match sd with
   | .si (.ce (.self k)) => getG G k fun s => match s with
    | .row e' sz n xs => natEq sz ei.size ((m ≤ n ∧ 0 < n) ∧ setG G k (.row e' sz n (splice xs 0 ys)) fun G' => K (pv (.int .i64 m)) G')
    | _ => False
   | _ => False
  | _ => False
theorem copyX_ok {T : Tab} (hT : TabOk P T) {o : Oper} {t tx : TypeId} {s x : Operand} (ho : o.op = .call ⟨.builtin .copy, #[s, x], #[t, tx]⟩) {F : Fr} {H : Hp} {G : List SB} {K : SV → Hp → List SB → Prop} {Kp : List PanicEntry → Hp → List SB → Prop}
  (h : evX s F fun ss => evX x F fun sx => copyX T t tx ss sx H G fun sv G' => K sv H G') : LO P o F H G K Kp := by
 obtain ⟨ss, h1, hss⟩ := evX_ok h
 obtain ⟨sx, h2, hsx⟩ := evX_ok h1
 clear h h1
 obtain ⟨ti, ht, h⟩ := tabX_ok hT h2
 clear h2
 have b1 : ∀ (a : Act), (#[s, x] : Array Operand).map a.eval = #[a.eval s, a.eval x] := fun a => by simp
 cases hk : ti.k with
 | slice e =>
  simp only [hk] at h
  obtain ⟨ei, he, h1⟩ := tabX_ok hT h
  obtain ⟨m, ys, h2, hsrc⟩ := srcX_ok hT h1
  clear h h1
  split at h2
  ·rename_i k
   obtain ⟨sb, hsb, h3⟩ := getG_ok h2
   clear h2
   split at h3
   ·rename_i e' sz n xs
    obtain ⟨hsz, ⟨hmn, hn0⟩, h4⟩ := natEq_ok h3
    obtain ⟨_, h5⟩ := setG_ok h4
    clear h3 h4
    subst hsz
    obtain ⟨i, z, hi, hi1, hi2, hz, hzc⟩ := he.info
    intro w0 M hgd H0 ρ a w hs hf
    have hρ : ρ[k]? = some (a.eval s) := hss ρ a hf
    have hrow := hs.ok k _ _ hsb hρ
    have hS := hsrc ρ w _ hs.sw (hsx ρ a hf)
    rcases hrow.2 with ⟨_, hn⟩ | ⟨g, oo, cap, cur, e1, hg, hnc, hcm, hcs, htk⟩
    ·omega
    have hxl : xs.length = n * ei.size := hrow.1
    have hms : m * ei.size ≤ n * ei.size := Nat.mul_le_mul_right _ hmn
    have hns : n * ei.size ≤ cap * ei.size := Nat.mul_le_mul_right _ hnc
    have hyl : ys.length = m * ei.size := hS.newsLen
    have hst := run_storeCells_at P g oo e' ys 0 cur w hg (by omega) hS.one
    simp only [Nat.add_zero] at hst
    have hmin : Nat.min m n = m := Nat.min_eq_left hmn
    have hcells := hS.cells
    have hrun : (execOp a.eval o).run P w = .ok (.value (.int .i64 m)) (w.setRow g (splice cur.toList oo ys).toArray) := by
     simp [execOp, ho, resolve, b1, e1, invoke, builtin, Builtin.copy_, run_underlying (ht.slice hk), hS.len w, hmin, he.sizeOf w, hcells, hst, splice, goInt, Result.andThen]
    rw [hrun]
    refine ⟨_, ρ, H, _, hs.turn (g := g) hsb hρ (by rw [e1]; rfl) rfl rfl rfl (by simp) (fun b _ hne => setRow_other w g b _ hne) (s' := .row e' ei.size n (splice xs 0 ys)) ⟨by rw [splice_length (by omega)]; exact hxl, .inr ⟨g, oo, cap, _, e1, setRow_heap w g _ _ _ _ hg, hnc, hcm, ?_, ?_⟩⟩ (.inl (by rw [e1]; rfl)), .refl _, pv_is _ _, .refl _, h5⟩
    ·simp only [List.size_toArray]
     rw [splice_length (by simp; omega)]
     simpa using hcs
    ·simp only
     have := drop_splice (l := cur.toList) (o := oo) (off := 0) (ys := ys) (by simp; omega)
     rw [Nat.add_zero] at this
     rw [this, take_splice (by omega) (by simp; omega), htk]
   ·exact h3.elim
  ·exact h2.elim
 | _ => simp only [hk] at h

def loIs (lo : Option Operand) (a : Act) (l : Int) : Prop :=
 match lo with
 | none => l = 0
 | some u => ∃ k, a.eval u = .int k l
def hiIs (hi : Option Operand) (a : Act) (h : Option Int) : Prop :=
 match hi, h with
 | none, none => True
 | some u, some h => ∃ k, a.eval u = .int k h
 | _, _ => False
def cutX (T : Tab) (t : TypeId) (sx : SV) (lo : Int) (hi : Option Int) (G : List SB) (K : SV → List SB → Prop) : Prop :=
 tabX T t fun ti => match ti.k with
  | .slice e => tabX T e fun ei => match sx with
   | .si (.ce (.self k)) => getG G k fun s => match s with
    | .row e' sz n xs => natEq sz ei.size (match hi with
     | none => (0 ≤ lo ∧ lo ≤ (n : Int)) ∧ setG G k .dead fun G' => appG G' (.row e' sz (n - lo.toNat) (xs.drop (lo.toNat * sz))) fun G'' j => K (.si (.ce (.self j))) G''
     | some h => (0 ≤ lo ∧ lo ≤ h ∧ h ≤ (n : Int)) ∧ setG G k .dead fun G' => appG G' (.row e' sz (h.toNat - lo.toNat) ((xs.drop (lo.toNat * sz)).take ((h.toNat - lo.toNat) * sz))) fun G'' j => K (.si (.ce (.self j))) G'')
    | _ => False
   | _ => False
  | _ => False
theorem OwnRow.cut {w : World} {e sz n : Nat} {A : Option Addr} {cap : Nat} {xs : List Value} (h : OwnRow w e sz (.slice A n cap) n xs) {lo hi : Nat} (hlh : lo ≤ hi) (hhn : hi ≤ n) :
  OwnRow w e sz (.slice (if cap = lo then A else A.map (·.add (lo * sz))) (hi - lo) (cap - lo)) (hi - lo) ((xs.drop (lo * sz)).take ((hi - lo) * sz)) := by
 have hx := h.1
 have hm : hi * sz ≤ n * sz := Nat.mul_le_mul_right _ hhn
 have hd : (hi - lo) * sz = hi * sz - lo * sz := Nat.sub_mul ..
 have hlo : lo * sz ≤ hi * sz := Nat.mul_le_mul_right _ hlh
 refine ⟨by simp; omega, ?_⟩
 rcases h.2 with ⟨e1, e2⟩ | ⟨g, o, cap', cur, e1, hg, hnc, hcm, hcs, htk⟩
 ·injection e1 with e1 e3 e4
  subst e1 e2 e4
  left
  have : lo = 0 := by omega
  have : hi = 0 := by omega
  subst_vars
  simp
 ·injection e1 with e1 e3 e4
  subst e1 e4
  right
  by_cases hc : cap = lo
  ·rw [if_pos hc]
   refine ⟨g, o, cap - lo, cur, rfl, hg, by omega, by omega, ?_, ?_⟩
   ·have : cap - lo = 0 := by omega
    rw [this]; omega
   ·have : hi - lo = 0 := by omega
    rw [this]; simp
  ·rw [if_neg hc]
   have hcl : (cap - lo) * sz = cap * sz - lo * sz := Nat.sub_mul ..
   have hlc : lo * sz ≤ cap * sz := Nat.mul_le_mul_right _ (by omega)
   refine ⟨g, o + lo * sz, cap - lo, cur, by rw [Option.map_some, Addr.add_lit], hg, by omega, by omega, by omega, ?_⟩
   rw [← htk, List.drop_take, List.drop_drop, List.take_take, Nat.min_eq_left (by omega)]
theorem cutX_ok {T : Tab} (hT : TabOk P T) {o : Oper} {t : TypeId} {x : Operand} {lo hi : Option Operand} (ho : o.op = .slice t x lo hi none) {lv : Int} {hv : Option Int} {F : Fr} {H : Hp} {G : List SB} {K : SV → Hp → List SB → Prop} {Kp : List PanicEntry → Hp → List SB → Prop} {sx : SV}
  (hx : ∀ ρ (a : Act), FOk ρ F a.tmps → sx.Is ρ (a.eval x)) (hlo : ∀ ρ (a : Act), FOk ρ F a.tmps → loIs lo a lv)
  (hhi : ∀ ρ (a : Act), FOk ρ F a.tmps → hiIs hi a hv)
  (h : cutX T t sx lv hv G fun sv G' => K sv H G') : LO P o F H G K Kp := by
 obtain ⟨ti, ht, h1⟩ := tabX_ok hT h
 clear h
 cases hk : ti.k with
 | slice e =>
  simp only [hk] at h1
  obtain ⟨ei, he, h2⟩ := tabX_ok hT h1
  clear h1
  split at h2
  ·rename_i k
   obtain ⟨sb, hsb, h3⟩ := getG_ok h2
   clear h2
   split at h3
   ·rename_i e' sz n xs
    obtain ⟨hsz, h4⟩ := natEq_ok h3
    clear h3
    subst hsz
    intro w0 M hgd H0 ρ a w hs hf
    have hρ : ρ[k]? = some (a.eval x) := hx ρ a hf
    have hrow := hs.ok k _ _ hsb hρ
    have hsl : ∃ A cap, a.eval x = .slice A n cap ∧ n ≤ cap := by
     rcases hrow.2 with ⟨e1, e2⟩ | ⟨g, oo, cap, cur, e1, _, hnc, _⟩
     ·exact ⟨none, 0, by rw [e1, e2], by omega⟩
     ·exact ⟨_, cap, e1, hnc⟩
    obtain ⟨A, cap, e1, hnc⟩ := hsl
    have fin : ∀ (l h : Nat), l ≤ h → h ≤ n → (execOp a.eval o).run P w = .ok (.value (.slice (if cap = l then A else A.map (·.add (l * ei.size))) (h - l) (cap - l))) w →
      K (.si (.ce (.self (G.set k .dead).length))) H (G.set k .dead ++ [.row e' ei.size (h - l) ((xs.drop (l * ei.size)).take ((h - l) * ei.size))]) →
      Out P (fun v w' => ∃ sv ρ' H' G', St w0 M H0 ρ' H' G' w' ∧ Pre ρ ρ' ∧ sv.Is ρ' v ∧ H.Le H' ∧ K sv H' G') (fun ch w' => ∃ ρ' H' G', St w0 M H0 ρ' H' G' w' ∧ Pre ρ ρ' ∧ H.Le H' ∧ Kp ch H' G') ((execOp a.eval o).run P w) := by
     intro l h hlh hhn hrun hK
     rw [hrun]
     rw [e1] at hrow hρ
     have hr' := hrow.cut hlh hhn
     refine ⟨_, ρ ++ [_], H, _, (hs.kill k).adopt (s := .row e' ei.size (h - l) ((xs.drop (l * ei.size)).take ((h - l) * ei.size))) hr' (fun g hg => ?_), Pre.append _ _, ?_, .refl _, hK⟩
     ·have hb : SB.blk (.slice A n cap) (.row e' ei.size n xs) = some g := by
       cases A with
       | none => split at hg <;> simp [SB.blk, Value.ownBlock] at hg
       | some aa =>
        split at hg
        ·exact hg
        ·simp only [SB.blk, Value.ownBlock, Option.map_some] at hg
         rw [show (aa.add (l * ei.size)).block = aa.block by unfold Addr.add; split <;> rfl] at hg
         exact hg
      have hg' : blkAt ρ G k = some g := by rw [blkAt_eq hsb hρ]; exact hb
      exact ⟨(hs.own k g hg').1, (hs.own k g hg').2, fun j hj => (blkAt_dead hj).1 (hs.inj j k g (blkAt_dead hj).2 hg')⟩
     ·show (ρ ++ [_])[(G.set k .dead).length]? = some _
      rw [List.getElem?_append_right (by simp [hs.len])]
      simp [hs.len]
    have hlo' := hlo ρ a hf
    have hhi' := hhi ρ a hf
    have hsa : (execOp a.eval o).run P w = ((Instr.sliceAt t (.slice A n cap) (lo.map a.eval) (hi.map a.eval) none).run P w).andThen fun v w' => .ok (.value v) w' := by
     simp [execOp, ho, e1]
    cases hv with
    | none =>
     obtain ⟨⟨h5, h6⟩, h7⟩ := h4
     obtain ⟨_, h8⟩ := setG_ok h7
     have h9 := appG_ok h8
     have hxl : xs.length = n * ei.size := hrow.1
     refine fin lv.toNat n (by omega) (Nat.le_refl _) ?_ ?_
     ·rw [hsa]
      cases hi with
      | some u => exact hhi'.elim
      | none =>
       cases lo with
       | none =>
        simp only [loIs] at hlo'
        subst hlo'
        simp [Instr.sliceAt, Instr.slice, Instr.sliceBounds, run_underlying (ht.slice hk), he.sizeOf w]
       | some l =>
        obtain ⟨kk, e2⟩ := hlo'
        simp [Instr.sliceAt, Instr.slice, Instr.sliceBounds, run_underlying (ht.slice hk), he.sizeOf w, e2, run_bound (P := P) ⟨h5, h6⟩]
     ·have ht2 : (xs.drop (lv.toNat * ei.size)).take ((n - lv.toNat) * ei.size) = xs.drop (lv.toNat * ei.size) := by
       apply List.take_of_length_le
       rw [List.length_drop, hxl, Nat.sub_mul]; exact Nat.le_refl _
      rw [ht2]; exact h9
    | some hh =>
     obtain ⟨⟨h5, h6, h6'⟩, h7⟩ := h4
     obtain ⟨_, h8⟩ := setG_ok h7
     have h9 := appG_ok h8
     refine fin lv.toNat hh.toNat (by omega) (by omega) ?_ h9
     rw [hsa]
     cases hi with
     | none => exact hhi'.elim
     | some u =>
      obtain ⟨ku, e3⟩ := hhi'
      have hb : (0 : Int) ≤ hh ∧ hh ≤ ((cap : Nat) : Int) := ⟨by omega, by omega⟩
      have hb2 : (0 : Int) ≤ lv ∧ lv ≤ ((hh.toNat : Nat) : Int) := ⟨h5, by omega⟩
      cases lo with
      | none =>
       simp only [loIs] at hlo'
       subst hlo'
       simp [Instr.sliceAt, Instr.slice, Instr.sliceBounds, run_underlying (ht.slice hk), he.sizeOf w, e3, run_bound (P := P) hb]
      | some l =>
       obtain ⟨kk, e2⟩ := hlo'
       simp [Instr.sliceAt, Instr.slice, Instr.sliceBounds, run_underlying (ht.slice hk), he.sizeOf w, e2, e3, run_bound (P := P) hb, run_bound (P := P) hb2]
   ·exact h3.elim
  ·exact h2.elim
 | _ => simp only [hk] at h1
def cut3X (T : Tab) (t : TypeId) (sx : SV) (l h m : Int) (K : SV → Prop) : Prop :=
 tabX T t fun ti => match ti.k with
  | .slice e => tabX T e fun ei => match sx with
   | .si (.ce (.val (.slice A _ c))) => (0 ≤ l ∧ l ≤ h ∧ h ≤ m ∧ m ≤ (c : Int)) ∧ K (pv (.slice (subA A m.toNat l.toNat ei.size) (h.toNat - l.toNat) (m.toNat - l.toNat)))
   | _ => False
  | _ => False
theorem cut3X_ok {T : Tab} (hT : TabOk P T) {o : Oper} {t : TypeId} {x u v : Operand} {lo : Option Operand} (ho : o.op = .slice t x lo (some u) (some v)) {l h m : Int} {F : Fr} {H : Hp} {G : List SB} {K : SV → Prop} {sx : SV}
  (hx : ∀ ρ (a : Act), FOk ρ F a.tmps → sx.Is ρ (a.eval x)) (hlo : ∀ ρ (a : Act), FOk ρ F a.tmps → loIs lo a l)
  (hu : ∀ ρ (a : Act), FOk ρ F a.tmps → ∃ k, a.eval u = .int k h) (hv : ∀ ρ (a : Act), FOk ρ F a.tmps → ∃ k, a.eval v = .int k m) (h0 : cut3X T t sx l h m K) : QO P o F H G K := by
 obtain ⟨ti, ht, h1⟩ := tabX_ok hT h0
 clear h0
 cases hk : ti.k with
 | slice e =>
  simp only [hk] at h1
  obtain ⟨ei, he, h2⟩ := tabX_ok hT h1
  clear h1
  split at h2
  ·rename_i A n c
   obtain ⟨⟨b1, b2, b3, b4⟩, hK⟩ := h2
   refine ⟨_, hK, fun ρ a wc hf hw => ⟨_, pv_is _ _, fun w hw' => ?_⟩⟩
   have e1 : a.eval x = .slice A n c := hx ρ a hf
   obtain ⟨ku, e2⟩ := hu ρ a hf
   obtain ⟨kv, e3⟩ := hv ρ a hf
   have hlo' := hlo ρ a hf
   have q1 : (0 : Int) ≤ m ∧ m ≤ ((c : Nat) : Int) := ⟨by omega, b4⟩
   have q2 : (0 : Int) ≤ h ∧ h ≤ ((m.toNat : Nat) : Int) := ⟨by omega, by omega⟩
   have q3 : (0 : Int) ≤ l ∧ l ≤ ((h.toNat : Nat) : Int) := ⟨by omega, by omega⟩
   cases lo with
   | none =>
    simp only [loIs] at hlo'
    subst hlo'
    simp [execOp, ho, e1, e2, e3, Instr.sliceAt, Instr.slice, Instr.sliceBounds, run_underlying (ht.slice hk), he.sizeOf w, run_bound (P := P) q1, run_bound (P := P) q2, subA]
   | some lu =>
    obtain ⟨kk, e4⟩ := hlo'
    simp [execOp, ho, e1, e2, e3, e4, Instr.sliceAt, Instr.slice, Instr.sliceBounds, run_underlying (ht.slice hk), he.sizeOf w, run_bound (P := P) q1, run_bound (P := P) q2, run_bound (P := P) q3, subA]
  ·exact h2.elim
 | _ => simp only [hk] at h1
theorem boundX_ok {lo : Option Operand} {F : Fr} {K : Int → Prop} (h : boundX lo F 0 K) : ∃ l, K l ∧ ∀ ρ (a : Act), FOk ρ F a.tmps → loIs lo a l := by
 cases lo with
 | none => exact ⟨0, h, fun _ _ _ => rfl⟩
 | some u =>
  obtain ⟨su, h, hu⟩ := evX_ok h
  obtain ⟨k, n, rfl, h⟩ := intX_ok h
  exact ⟨n, h, fun ρ a hf => ⟨k, hu ρ a hf⟩⟩
def rowOf (sx : SV) (G : List SB) (K : Bool → Prop) : Prop :=
 match sx with
 | .si (.ce (.self k)) => getG G k fun s => match s with
  | .row .. => K true
  | _ => K false
 | _ => K false
theorem rowOf_ok {sx : SV} {G : List SB} {K : Bool → Prop} (h : rowOf sx G K) : ∃ b, K b := by
 unfold rowOf at h
 split at h
 ·obtain ⟨s, _, h⟩ := getG_ok h
  split at h <;> exact ⟨_, h⟩
 ·exact ⟨_, h⟩
def sliceOpX (P : Program) (T : Tab) (o : Oper) (t : TypeId) (x : Operand) (lo hi mx : Option Operand) (F : Fr) (H : Hp) (G : List SB) (K : SV → Hp → List SB → Prop) : Prop :=
 match mx with
 | none => evX x F fun sx => rowOf sx G fun b => match b with
  | true => boundX lo F 0 fun l => match hi with
   | none => cutX T t sx l none G fun sv G' => K sv H G'
   | some u => evX u F fun su => intX su fun _ h => cutX T t sx l (some h) G fun sv G' => K sv H G'
  | false => opQ P T o F H G fun sv => K sv H G
 | some v => match hi with
  | some u => evX x F fun sx => boundX lo F 0 fun l => evX u F fun su => intX su fun _ h => evX v F fun sv => intX sv fun _ m => cut3X T t sx l h m fun sv => K sv H G
  | none => False
theorem sliceOpX_ok {T : Tab} (hT : TabOk P T) {o : Oper} {t : TypeId} {x : Operand} {lo hi mx : Option Operand} (ho : o.op = .slice t x lo hi mx) {F : Fr} {H : Hp} {G : List SB} {K : SV → Hp → List SB → Prop} {Kp : List PanicEntry → Hp → List SB → Prop} (h : sliceOpX P T o t x lo hi mx F H G K) : LO P o F H G K Kp := by
 cases mx with
 | none =>
  obtain ⟨sx, h1, hx⟩ := evX_ok h
  clear h
  obtain ⟨b, h2⟩ := rowOf_ok h1
  clear h1
  cases b with
  | false => exact LO.of_quiet (opQ_ok hT h2)
  | true =>
   obtain ⟨l, h3, hl⟩ := boundX_ok h2
   clear h2
   cases hi with
   | none => exact cutX_ok hT ho hx hl (hv := none) (fun _ _ _ => trivial) h3
   | some u =>
    obtain ⟨su, h4, hu⟩ := evX_ok h3
    obtain ⟨k, n, rfl, h5⟩ := intX_ok h4
    exact cutX_ok hT ho hx hl (hv := some n) (fun ρ a hf => ⟨k, hu ρ a hf⟩) h5
 | some v =>
  cases hi with
  | none => exact h.elim
  | some u =>
   obtain ⟨sx, h1, hx⟩ := evX_ok h
   obtain ⟨l, h2, hl⟩ := boundX_ok h1
   obtain ⟨su, h3, hu⟩ := evX_ok h2
   obtain ⟨ku, hh, rfl, h4⟩ := intX_ok h3
   obtain ⟨sv, h5, hv⟩ := evX_ok h4
   obtain ⟨kv, mm, rfl, h6⟩ := intX_ok h5
   exact LO.of_quiet (cut3X_ok hT ho hx hl (fun ρ a hf => ⟨ku, hu ρ a hf⟩) (fun ρ a hf => ⟨kv, hv ρ a hf⟩) h6)
inductive CvK
 | s2b | b2s | s2s | other
def cvX (T : Tab) (s d : TypeId) (K : CvK → Prop) : Prop :=
 tabX T s fun si => tabX T d fun di => match si.k with
  | .string => match di.k with
   | .slice e => tabX T e fun ei => match ei.k with
    | .int .u8 => K .s2b
    | _ => K .other
   | _ => K .other
  | .slice e => match di.k with
   | .string => tabX T e fun ei => match ei.k with
    | .int .u8 => K .b2s
    | _ => K .other
   | .slice _ => K .s2s
   | _ => K .other
  | _ => K .other
theorem cvX_ok {T : Tab} (hT : TabOk P T) {s d : TypeId} {K : CvK → Prop} (h : cvX T s d K) : ∃ c, K c ∧ match c with
  | .s2b => ∃ e, P.underlying s = some .string ∧ P.underlying d = some (.slice e) ∧ P.underlying e = some (.int .u8)
  | .b2s => ∃ e, P.underlying s = some (.slice e) ∧ P.underlying d = some .string ∧ P.underlying e = some (.int .u8)
  | .s2s => True
  | .other => True := by
 obtain ⟨si, hs, h1⟩ := tabX_ok hT h
 clear h
 obtain ⟨di, hd, h2⟩ := tabX_ok hT h1
 clear h1
 split at h2
 ·rename_i hk1
  split at h2
  ·rename_i e hk2
   obtain ⟨ei, he, h3⟩ := tabX_ok hT h2
   clear h2
   split at h3
   ·rename_i hk3; exact ⟨_, h3, e, hs.string hk1, hd.slice hk2, he.int hk3⟩
   ·exact ⟨_, h3, trivial⟩
  ·exact ⟨_, h2, trivial⟩
 ·rename_i e hk1
  split at h2
  ·rename_i hk2
   obtain ⟨ei, he, h3⟩ := tabX_ok hT h2
   clear h2
   split at h3
   ·rename_i hk3; exact ⟨_, h3, e, hs.slice hk1, hd.string hk2, he.int hk3⟩
   ·exact ⟨_, h3, trivial⟩
  ·exact ⟨_, h2, trivial⟩
  ·exact ⟨_, h2, trivial⟩
 ·exact ⟨_, h2, trivial⟩
def convOpX (P : Program) (T : Tab) (o : Oper) (s d : TypeId) (x : Operand) (F : Fr) (H : Hp) (G : List SB) (K : SV → Hp → List SB → Prop) (L : Prop) : Prop :=
 cvX T s d fun c => match c with
  | .s2b => evX x F fun sx => strX sx fun str => s2bX str H fun sv H' => K sv H' G
  | .b2s => evX x F fun sx => b2sX sx H G fun sv => K sv H G
  | .s2s => L
  | .other => opQ P T o F H G fun sv => K sv H G
theorem convOpX_ok {T : Tab} (hT : TabOk P T) {o : Oper} {s d : TypeId} {x : Operand} (ho : o.op = .convert s d x) {F : Fr} {H : Hp} {G : List SB} {K : SV → Hp → List SB → Prop} {Kp : List PanicEntry → Hp → List SB → Prop} (h : convOpX P T o s d x F H G K (LO P o F H G K Kp)) : LO P o F H G K Kp := by
 obtain ⟨c, h1, h2⟩ := cvX_ok hT h
 cases c with
 | s2b => obtain ⟨e, a1, a2, a3⟩ := h2; exact s2bX_ok ho a1 a2 a3 h1
 | b2s => obtain ⟨e, a1, a2, a3⟩ := h2; exact LO.of_quiet (b2sX_ok ho a1 a2 a3 h1)
 | s2s => exact h1
 | other => exact LO.of_quiet (opQ_ok hT h1)
def convQ (P : Program) (T : Tab) (o : Oper) (s d : TypeId) (x : Operand) (F : Fr) (H : Hp) (G : List SB) (K : SV → Prop) : Prop :=
 cvX T s d fun c => match c with
  | .s2b => False
  | .b2s => evX x F fun sx => b2sX sx H G K
  | .s2s => QO P o F H G K
  | .other => opQ P T o F H G K
theorem convQ_ok {T : Tab} (hT : TabOk P T) {o : Oper} {s d : TypeId} {x : Operand} (ho : o.op = .convert s d x) {F : Fr} {H : Hp} {G : List SB} {K : SV → Prop} (h : convQ P T o s d x F H G K) : QO P o F H G K := by
 obtain ⟨c, h1, h2⟩ := cvX_ok hT h
 cases c with
 | s2b => exact h1.elim
 | b2s => obtain ⟨e, a1, a2, a3⟩ := h2; exact b2sX_ok ho a1 a2 a3 h1
 | s2s => exact h1
 | other => exact opQ_ok hT h1
end
end Go.Kx
namespace Go.Kx
open Go.RowKit

section
variable {P : Program}
def panX (sx : SV) (Kp : List PanicEntry → Prop) : Prop :=
 match sx with
 | .si (.ce (.val (.iface t v))) => Kp [{ v := .iface t v, recovered := false }]
 | _ => False
theorem panX_ok {o : Oper} {x : Operand} (ho : o.op = .panic x) {F : Fr} {H : Hp} {G : List SB} {K : SV → Hp → List SB → Prop} {Kp : List PanicEntry → Hp → List SB → Prop}
  (h : evX x F fun sx => panX sx fun ch => Kp ch H G) : LO P o F H G K Kp := by
 obtain ⟨sx, h, hx⟩ := evX_ok h
 unfold panX at h
 split at h
 ·rename_i t v
  intro w0 M hgd H0 ρ a w hs hf
  have e : a.eval x = .iface t v := hx ρ a hf
  have hrun : (execOp a.eval o).run P w = .halt (.panic (.iface t v)) w := by
   simp only [execOp, ho, e]
   simp [Instr.panic, goPanic]
  rw [hrun]
  exact ⟨ρ, H, G, hs, .refl _, .refl _, h⟩
 ·exact h.elim
def ifcX (sx : SV) (K1 : TypeId → Value → Prop) (K0 : Prop) : Prop :=
 match sx with
 | .si (.ce (.val (.iface u v))) => K1 u v
 | .si (.ce (.val .nilIface)) => K0
 | _ => False
theorem ifcX_ok {sx : SV} {K1 : TypeId → Value → Prop} {K0 : Prop} (h : ifcX sx K1 K0) : (∃ u v, sx = .si (.ce (.val (.iface u v))) ∧ K1 u v) ∨ (sx = .si (.ce (.val .nilIface)) ∧ K0) := by
 unfold ifcX at h
 split at h <;> first | exact .inl ⟨_, _, rfl, h⟩ | exact .inr ⟨rfl, h⟩ | exact h.elim
def taX (T : Tab) (t : TypeId) (ok : Bool) (sx : SV) (K : SV → Prop) : Prop :=
 tabX T t fun ti => notIfc ti.k <| ifcX sx (fun u v => match Nat.beq u t with
   | true => constX v fun sv => lookX.fin ok sv true K
   | false => match ok with
    | true => zeroX ti fun sv => lookX.fin true sv false K
    | false => False)
  (match ok with
   | true => zeroX ti fun sv => lookX.fin true sv false K
   | false => False)
theorem run_ta_yes {t xt : TypeId} {d : TypeDesc} (hd : P.underlying t = some d) (hn : ∀ m, d ≠ .interface m) (v : Value) (ok : Bool) (w : World) : (Instr.typeAssert (.iface t v) xt t ok).run P w = .ok (if ok then .tuple #[v, .bool true] else v) w := by
 unfold Instr.typeAssert
 cases d <;> first | exact absurd rfl (hn _) | (simp [run_underlying hd])
theorem run_ta_no {t u xt : TypeId} (hu : u ≠ t) {d : TypeDesc} (hd : P.underlying t = some d) (hn : ∀ m, d ≠ .interface m) (v z : Value) (hz : ∀ w, (zeroValue t).run P w = .ok z w) (w : World) : (Instr.typeAssert (.iface u v) xt t true).run P w = .ok (.tuple #[z, .bool false]) w := by
 unfold Instr.typeAssert
 cases d <;> first | exact absurd rfl (hn _) | (simp [run_underlying hd, hu, hz])
theorem run_ta_nil {t xt : TypeId} {d : TypeDesc} (hd : P.underlying t = some d) (hn : ∀ m, d ≠ .interface m) (z : Value) (hz : ∀ w, (zeroValue t).run P w = .ok z w) (w : World) : (Instr.typeAssert .nilIface xt t true).run P w = .ok (.tuple #[z, .bool false]) w := by
 unfold Instr.typeAssert
 cases d <;> first | exact absurd rfl (hn _) | (simp [run_underlying hd, hz])
theorem taX_ok {T : Tab} (hT : TabOk P T) {o : Oper} {x : Operand} {xt t : TypeId} {ok : Bool} (ho : o.op = .typeAssert x xt t ok) {F : Fr} {H : Hp} {G : List SB} {K : SV → Prop}
  (h : evX x F fun sx => taX T t ok sx K) : QO P o F H G K := by
 obtain ⟨sx, h, hx⟩ := evX_ok h
 obtain ⟨ti, ht, h⟩ := tabX_ok hT h
 obtain ⟨hk, h⟩ := notIfc_ok h
 obtain ⟨d, hd, hn⟩ := ht.notIface hk
 have hex : ∀ (a : Act) (w : World), (execOp a.eval o).run P w = ((Instr.typeAssert (a.eval x) xt t ok).run P w).andThen fun v w => .ok (.value v) w := fun a w => by
  simp [execOp, ho]
 rcases ifcX_ok h with ⟨u, v, e0, h2⟩ | ⟨e0, h2⟩ <;> clear h <;> subst e0
 ·cases hu : Nat.beq u t with
  | true =>
   rw [hu] at h2
   have hu := Nat.eq_of_beq_eq_true hu
   subst hu
   obtain ⟨sv, h, hsv⟩ := constX_ok h2
   obtain ⟨s, h, hs⟩ := lookX_fin h
   refine ⟨s, h, fun ρ a wc hf hw => ⟨_, hs ρ _ (hsv ρ), fun w hw' => ?_⟩⟩
   have e : a.eval x = .iface u v := hx ρ a hf
   rw [hex, e, run_ta_yes hd hn]; rfl
  | false =>
   rw [hu] at h2
   have hu : u ≠ t := fun e => by rw [e, Nat.beq_refl] at hu; cases hu
   cases ok with
   | true =>
    obtain ⟨sv, z, h, hsv, hz⟩ := zeroX_ok ht h2
    obtain ⟨s, h, hs⟩ := lookX_fin h
    refine ⟨s, h, fun ρ a wc hf hw => ⟨_, hs ρ _ (hsv ρ), fun w hw' => ?_⟩⟩
    have e : a.eval x = .iface u v := hx ρ a hf
    rw [hex, e, run_ta_no hu hd hn v z hz]; rfl
   | false => exact h2.elim
 ·cases ok with
  | true =>
   obtain ⟨sv, z, h, hsv, hz⟩ := zeroX_ok ht h2
   obtain ⟨s, h, hs⟩ := lookX_fin h
   refine ⟨s, h, fun ρ a wc hf hw => ⟨_, hs ρ _ (hsv ρ), fun w hw' => ?_⟩⟩
   have e : a.eval x = .nilIface := hx ρ a hf
   rw [hex, e, run_ta_nil hd hn z hz]; rfl
  | false => exact h2.elim
end
end Go.Kx
namespace Go.Kx
open Go.RowKit

section
variable {P : Program}
theorem liesAt_off {e : TypeId} (hc : P.cellsOf e = 1) (count off n : Nat) (hn : off + n ≤ count) : liesAt P P.depth e count off e n = true := by
 have hd : P.depth = (2 * (P.types.size + Made.depth) + 1) + 1 := rfl
 rw [hd]
 simp only [liesAt, Bool.or_eq_true]
 left
 rw [hd]
 simp [rowAt, hc, hn, sameLayout, Nat.mod_one]
theorem run_unsafeString_at (w : World) (pt it ty e : TypeId) (hp : P.underlying pt = some (.pointer e)) (hc : P.cellsOf e = 1) (g o cells : Nat) (hsh : w.shape? g = some (e, cells)) (l : List UInt8) (h0 : l ≠ []) (hn : o + l.length ≤ cells) (h63 : l.length ≤ 9223372036854775807)
  (hcell : ∀ j x, l[j]? = some x → w.cell? ((⟨g, o, none⟩ : Addr).add j) = some (.int .u8 x.toNat)) :
  (Builtin.unsafeString_ #[pt, it] ty #[.pointer (some ⟨g, o, none⟩), .int .i64 l.length]).run P w = .ok (.string ⟨l.toArray⟩) (w.freeze ⟨g, o, none⟩ l.length) := by
 have hl : l.length ≠ 0 := by simpa using h0
 have hlb := Lib.run_loadBytes (P := P) w l ⟨g, o, none⟩ .empty hcell
 have hlies := liesAt_off (P := P) hc (cells / P.cellsOf e) o l.length (by rw [hc]; simpa using hn)
 have h63' : ¬ (9223372036854775807 : Int) < (l.length : Int) := by omega
 have hdef : Builtin.unsafeString_ #[pt, it] ty #[.pointer (some ⟨g, o, none⟩), .int .i64 l.length] =
   (do
    let n ← asInt (.int .i64 l.length)
    if n < 0 then runtimePanic (.error "unsafe.String: len out of range")
    if n > IntKind.i64.max then unsupported (.unsafePointer "String: a length above the largest int")
    if n = 0 then pure (.string .empty)
    else if ← variablesAt ⟨g, o, none⟩ (← elemOf pt) n.toNat then do
     let s ← loadBytes ⟨g, o, none⟩ .empty n.toNat
     freeze ⟨g, o, none⟩ n.toNat
     pure (.string s)
    else unsupported (.unsafePointer "String: not so many bytes at ptr")) := rfl
 rw [hdef]
 have hmax : IntKind.i64.max = 9223372036854775807 := rfl
 have hneg : ¬ (l.length : Int) < 0 := by omega
 simp [asInt, asIntOf, hmax, h63', hneg, hl, variablesAt, hsh, elemOf, run_underlying hp, hlies, hlb]
def sdX (T : Tab) (ty : TypeId) (sx : SV) (G : List SB) (K : SV → Prop) : Prop :=
 tabX T ty fun ti => match ti.k with
  | .ptr _ => match sx with
   | .si (.ce (.val (.slice A _ _))) => match A with
    | none => K (pv (.pointer none))
    | some _ => False
   | .si (.ce (.self k)) => getG G k fun s => match s with
    | .row _ _ n _ => (0 < n → K (.si (.ce (.ptr k 0)))) ∧ (n = 0 → ∀ A, K (.si (.ce (.pp A 0))))
    | _ => False
   | _ => False
  | _ => False
theorem sdX_ok {T : Tab} (hT : TabOk P T) {o : Oper} {ts : Array TypeId} {s : Operand} (ho : o.op = .call ⟨.builtin .unsafeSliceData, #[s], ts⟩) {F : Fr} {H : Hp} {G : List SB} {K : SV → Hp → List SB → Prop} {Kp : List PanicEntry → Hp → List SB → Prop}
  (h : evX s F fun ss => sdX T o.type ss G fun sv => K sv H G) : LO P o F H G K Kp := by
 obtain ⟨ss, hA, hss⟩ := evX_ok h
 clear h
 obtain ⟨ti, ht, h⟩ := tabX_ok hT hA
 clear hA
 have b1 : ∀ (a : Act), (#[s] : Array Operand).map a.eval = #[a.eval s] := fun a => by simp
 have hrun : ∀ (a : Act) (w : World), (execOp a.eval o).run P w = ((Builtin.unsafeSliceData_ ts o.type #[a.eval s]).run P w).andThen fun v w' => .ok (.value v) w' := fun a w => by
  simp only [execOp, ho, resolve, invoke, builtin, b1, Sem.run_bind, Sem.run_pure, Result.andThen_ok]
 split at h
 ·rename_i e htk
  split at h
  ·rename_i A n c
   split at h
   ·intro w0 M hgd H0 ρ a w hs hf
    have e1 : a.eval s = .slice none n c := hss ρ a hf
    rw [hrun, e1, Lib.run_unsafeSliceData_nil]
    exact ⟨pv (.pointer none), ρ, H, G, hs, .refl _, rfl, .refl _, h⟩
   ·exact h.elim
  ·rename_i k
   obtain ⟨sb, hsb, hB⟩ := getG_ok h
   clear h
   split at hB
   ·rename_i et sz n xs
    obtain ⟨h1, h2⟩ := hB
    intro w0 M hgd H0 ρ a w hs hf
    have hρ : ρ[k]? = some (a.eval s) := hss ρ a hf
    have hrow := hs.ok k _ (a.eval s) hsb hρ
    rcases hrow.2 with ⟨e1, e2⟩ | ⟨g, o', cap, cur, e1, hg, hnc, hcm, hcs, _⟩
    ·rw [hrun, e1, Lib.run_unsafeSliceData_nil]
     exact ⟨.si (.ce (.pp none 0)), ρ, H, G, hs, .refl _, rfl, .refl _, h2 e2 none⟩
    ·by_cases hc0 : cap = 0
     ·subst hc0
      have hn0 : n = 0 := by omega
      have hsh : w.shape? g = some (et, cur.size) := by simp [World.shape?, hg]
      rw [hrun, e1, Lib.run_unsafeSliceData_zero w ts o.type e (ht.ptr htk) ⟨g, o', none⟩ n _ hsh]
      have hgr : w.grownBy (w.alloc (.view ⟨g, o', none⟩ e)) none := ⟨rfl, rfl, rfl, by unfold World.alloc; simp, fun j hj _ => by unfold World.alloc; simp [Array.getElem?_push, Nat.ne_of_lt hj]⟩
      exact ⟨.si (.ce (.pp (some ⟨w.heap.size, 0, none⟩) 0)), ρ, H, G, hs.grew hgr (fun g e => by cases e), .refl _, rfl, .refl _, h2 hn0 _⟩
     ·rw [hrun, e1, Lib.run_unsafeSliceData_row _ _ _ _ _ _ hc0]
      by_cases hn0 : n = 0
      ·exact ⟨.si (.ce (.pp (some ⟨g, o', none⟩) 0)), ρ, H, G, hs, .refl _, rfl, .refl _, h2 hn0 _⟩
      ·exact ⟨.si (.ce (.ptr k 0)), ρ, H, G, hs, .refl _, ⟨_, hρ, by rw [e1]; rfl⟩, .refl _, h1 (by omega)⟩
   ·exact hB.elim
  ·exact h.elim
 ·exact h.elim
def ptrC (c : SC) (K : Prop) : Prop :=
 match c with
 | .val (.pointer none) => K
 | .ptr _ _ => K
 | .pp _ _ => K
 | _ => False
theorem ptrC_ok {c : SC} {K : Prop} (h : ptrC c K) : K ∧ ∀ ρ v, c.Is ρ v → ∃ q, v = .pointer q := by
 unfold ptrC at h
 split at h
 ·exact ⟨h, fun ρ v e => ⟨_, e⟩⟩
 ·refine ⟨h, fun ρ v ⟨r, _, e⟩ => ?_⟩
  unfold ptrAt at e
  split at e <;> first | (injection e with e; exact ⟨_, e.symm⟩) | cases e
 ·exact ⟨h, fun ρ v e => ⟨_, e⟩⟩
 ·exact h.elim
def usX (T : Tab) (pt : TypeId) (sp sn : SV) (G : List SB) (K : SV → List SB → Prop) : Prop :=
 tabX T pt fun pi => match pi.k with
  | .ptr e => tabX T e fun ei => natEq ei.size 1 <| plainX sn fun nv => match nv with
   | .int .i64 n => cellX sp fun c => ptrC c <| (n = 0 → K (pv (.string ⟨#[]⟩)) G) ∧ (n ≠ 0 → match c with
    | .ptr k 0 => getG G k fun s => match s with
     | .row e' sz _ xs => natEq e' e <| natEq sz 1 <| ∃ bs : ByteArray, xs = byteCells bs ∧ n = (bs.size : Int) ∧ bs.size ≤ 9223372036854775807 ∧ setG G k .dead fun G' => K (pv (.string bs)) G'
     | _ => False
    | _ => False)
   | _ => False
  | _ => False
theorem usX_ok {T : Tab} (hT : TabOk P T) {o : Oper} {pt it : TypeId} {p n : Operand} (ho : o.op = .call ⟨.builtin .unsafeString, #[p, n], #[pt, it]⟩) {F : Fr} {H : Hp} {G : List SB} {K : SV → Hp → List SB → Prop} {Kp : List PanicEntry → Hp → List SB → Prop}
  (h : evX p F fun sp => evX n F fun sn => usX T pt sp sn G fun sv G' => K sv H G') : LO P o F H G K Kp := by
 obtain ⟨sp, hA, hsp⟩ := evX_ok h
 clear h
 obtain ⟨sn, hB, hsn⟩ := evX_ok hA
 clear hA
 obtain ⟨pi, hpt, h⟩ := tabX_ok hT hB
 clear hB
 have b1 : ∀ (a : Act), (#[p, n] : Array Operand).map a.eval = #[a.eval p, a.eval n] := fun a => by simp
 have hrun : ∀ (a : Act) (w : World), (execOp a.eval o).run P w = ((Builtin.unsafeString_ #[pt, it] o.type #[a.eval p, a.eval n]).run P w).andThen fun v w' => .ok (.value v) w' := fun a w => by
  simp only [execOp, ho, resolve, invoke, builtin, b1, Sem.run_bind, Sem.run_pure, Result.andThen_ok]
 split at h
 ·rename_i e hpk
  obtain ⟨ei, he, hC⟩ := tabX_ok hT h
  clear h
  obtain ⟨hsz, hD⟩ := natEq_ok hC
  clear hC
  obtain ⟨nv, rfl, h⟩ := plainX_ok hD
  clear hD
  split at h
  ·rename_i nn
   obtain ⟨c, rfl, hE⟩ := cellX_ok h
   clear h
   obtain ⟨⟨h1, h2⟩, hpq⟩ := ptrC_ok hE
   clear hE
   intro w0 M hgd H0 ρ a w hs hf
   have e1 : c.Is ρ (a.eval p) := hsp ρ a hf
   have e2 : a.eval n = .int .i64 nn := hsn ρ a hf
   obtain ⟨q, e3⟩ := hpq ρ _ e1
   by_cases hn0 : nn = 0
   ·subst hn0
    rw [hrun, e2, e3, Lib.run_unsafeString_none]
    exact ⟨pv (.string ⟨#[]⟩), ρ, H, G, hs, .refl _, rfl, .refl _, h1 rfl⟩
   ·replace h2 := h2 hn0
    split at h2
    ·rename_i k
     obtain ⟨sb, hsb, h3⟩ := getG_ok h2
     clear h2
     split at h3
     ·rename_i e' sz m xs
      obtain ⟨rfl, h4⟩ := natEq_ok h3
      obtain ⟨rfl, bs, rfl, rfl, hbs, h5⟩ := natEq_ok h4
      obtain ⟨hk, h2⟩ := setG_ok h5
      obtain ⟨r, hr, hp⟩ := e1
      have hrow := hs.ok k _ r hsb hr
      have hlen := hrow.1
      rw [byteCells_length, Nat.mul_one] at hlen
      rcases hrow.2 with ⟨e4, e5⟩ | ⟨g, o', cap, cur, e4, hg, hnc, hcm, hcs, htk⟩
      ·exact absurd (by rw [hlen, e5]; rfl) hn0
      ·subst e4
       rw [e3] at hp
       have hp : (Value.pointer (some ⟨g, o' + 0, none⟩)) = .pointer q := Option.some.inj hp
       injection hp with hp
       subst hp
       rw [Nat.add_zero] at e3
       have hsh : w.shape? g = some (e', cur.size) := by simp [World.shape?, hg]
       have hcell : ∀ j x, bs.data.toList[j]? = some x → w.cell? ((⟨g, o', none⟩ : Addr).add j) = some (.int .u8 x.toNat) := by
        intro j x hx
        have hj : (byteCells bs)[j]? = some (.int .u8 x.toNat) := by simp [byteCells_map, hx]
        rw [← htk, List.getElem?_take] at hj
        split at hj
        ·rw [List.getElem?_drop] at hj
         rw [Addr.add_lit]
         simp only [World.cell?, hg]
         simpa using hj
        ·cases hj
       have hl : bs.data.toList.length = bs.size := by rw [Array.length_toList]; rfl
       have hsz0 : bs.data.toList ≠ [] := fun h0 => hn0 (by rw [← hl, h0]; rfl)
       have hru := run_unsafeString_at (P := P) w pt it o.type e' (hpt.ptr hpk) (by rw [he.cells, hsz]) g o' cur.size hsh bs.data.toList hsz0 (by rw [hl]; omega) (by rw [hl]; exact hbs) hcell
       rw [hl] at hru
       rw [hrun, e2, e3, hru]
       have hfr : ∀ j, j ≠ g → (w.freeze ⟨g, o', none⟩ bs.size).heap[j]? = w.heap[j]? := fun j hj => by
        unfold World.freeze
        split
        ·rfl
        ·simp only [Array.getElem?_modify]; rw [if_neg (by omega)]
       have hfs : (w.freeze ⟨g, o', none⟩ bs.size).heap.size = w.heap.size := by unfold World.freeze; split <;> simp
       have ho3 : (w.freeze ⟨g, o', none⟩ bs.size).os = w.os ∧ (w.freeze ⟨g, o', none⟩ bs.size).tape = w.tape ∧ (w.freeze ⟨g, o', none⟩ bs.size).output = w.output := by unfold World.freeze; split <;> exact ⟨rfl, rfl, rfl⟩
       exact ⟨pv (.string bs), ρ, H, _, hs.turn (g := g) (s' := .dead) hsb hr rfl ho3.1 ho3.2.1 ho3.2.2 (Nat.le_of_eq hfs.symm) (fun j _ hne => hfr j hne) trivial (.inr rfl), .refl _, rfl, .refl _, h2⟩
     ·exact h3.elim
    ·exact h2.elim
  ·exact h.elim
 ·exact h.elim
end
end Go.Kx
namespace Go.Kx
open Go.RowKit

abbrev KT := Exit → Fr → Hp → List SB → Prop

def PreE (e : Nat) (ρ ρ' : List Value) : Prop := ∀ (k : Nat) (r : Value), k < e → ρ[k]? = some r → ρ'[k]? = some r
theorem Pre.toE {e : Nat} {ρ ρ' : List Value} (h : Pre ρ ρ') : PreE e ρ ρ' := fun k r _ hk => h k r hk
theorem PreE.trans {e : Nat} {a b c : List Value} (h : PreE e a b) (h' : PreE e b c) : PreE e a c := fun k r hk e1 => h' k r hk (h k r hk e1)
theorem PreE.refl (e : Nat) (a : List Value) : PreE e a a := fun _ _ _ h => h
structure Pin where
 ds : List Deferred
 ps : List Nat
 vs : Nat → Option Value
def Pin.none : Pin := ⟨[], [], fun _ => Option.none⟩
def Pin.On (D : Pin) (a : Act) : Prop := a.defers = D.ds ∧ ∀ i ∈ D.ps, a.tmps[i]? = D.vs i
theorem Pin.on_none {a : Act} : Pin.none.On a ↔ a.defers = [] := ⟨fun h => h.1, fun h => ⟨h, fun i hi => by simp [Pin.none] at hi⟩⟩
theorem Pin.On.put {D : Pin} {a : Act} (h : D.On a) {dst : Option Tmp} (hd : ∀ d, dst = some d → d ∉ D.ps) (v : Value) : D.On (a.put dst v) := by
 cases dst with
 | none => exact h
 | some d =>
  refine ⟨h.1, fun i hi => ?_⟩
  have hne : d ≠ i := fun e => hd d rfl (e ▸ hi)
  simp only [Act.put]
  rw [Array.getElem?_setIfInBounds_ne hne]
  exact h.2 i hi
theorem Pin.On.unput {D : Pin} {a : Act} {dst : Option Tmp} (hd : ∀ d, dst = some d → d ∉ D.ps) {v : Value} (h : D.On (a.put dst v)) : D.On a := by
 cases dst with
 | none => exact h
 | some d =>
  refine ⟨h.1, fun i hi => ?_⟩
  have hne : d ≠ i := fun e => hd d rfl (e ▸ hi)
  have := h.2 i hi
  simp only [Act.put] at this
  rw [Array.getElem?_setIfInBounds_ne hne] at this
  exact this
def PostX (n e : Nat) (D : Pin) (w0 : World) (M : Nat → Prop) (H0 : Hp) (ρ : List Value) (H : Hp) (K : KT) : Exit → Act → World → Prop
 | .panic ch, a, w => D.On a ∧ ∃ ρ' H' G', St w0 M H0 ρ' H' G' w ∧ PreE e ρ ρ' ∧ H.Le H' ∧ K (.panic ch) [] H' G'
 | .outgrown, _, _ => False
 | x, a, w => D.On a ∧ a.tmps.size = n ∧ ∃ F' ρ' H' G', St w0 M H0 ρ' H' G' w ∧ PreE e ρ ρ' ∧ FOk ρ' F' a.tmps ∧ H.Le H' ∧ K x F' H' G'
def W (P : Program) (n e : Nat) (D : Pin) (c : Code) (K : KT) (F : Fr) (H : Hp) (G : List SB) : Prop :=
 ∀ (w0 : World) (M : Nat → Prop) (_ : Gd w0 M) (H0 : Hp) (ρ : List Value) (a : Act) (w : World), St w0 M H0 ρ H G w → FOk ρ F a.tmps → D.On a → a.tmps.size = n → c.wp P (PostX n e D w0 M H0 ρ H K) a w

structure WS (P : Program) (n e : Nat) (D : Pin) (c : Code) (K : KT) (F : Fr) (H : Hp) (G : List SB) : Prop where of ::
 to : W P n e D c K F H G

section
variable {P : Program} {n e : Nat} {D : Pin}
theorem PostX.le {w0 : World} {M : Nat → Prop} {H0 H H1 : Hp} {ρ ρ1 : List Value} {K : KT} (hp : PreE e ρ ρ1) (hle : H.Le H1) : ∀ x a w, PostX n e D w0 M H0 ρ1 H1 K x a w → PostX n e D w0 M H0 ρ H K x a w := by
 intro x a w h
 cases x <;> first
  | exact h.elim
  | (obtain ⟨h1, ρ', H', G', h2, hq, h3, h4⟩ := h; exact ⟨h1, ρ', H', G', h2, hp.trans hq, hle.trans h3, h4⟩)
  | (obtain ⟨h1, h0, F', ρ', H', G', h2, hq, h3, h4, h5⟩ := h; exact ⟨h1, h0, F', ρ', H', G', h2, hp.trans hq, h3, hle.trans h4, h5⟩)
theorem W.mono {c : Code} {K K' : KT} {F : Fr} {H : Hp} {G : List SB} (h : W P n e D c K F H G) (hk : ∀ x F' H' G', H.Le H' → K x F' H' G' → K' x F' H' G') : W P n e D c K' F H G := by
 intro w0 M hgd H0 ρ a w hs hf hd hn
 refine wp_mono (h w0 M hgd H0 ρ a w hs hf hd hn) fun x a w he => ?_
 cases x <;> first
  | exact he.elim
  | (obtain ⟨h1, ρ', H', G', h2, hq, h3, h4⟩ := he; exact ⟨h1, ρ', H', G', h2, hq, h3, hk _ _ _ _ h3 h4⟩)
  | (obtain ⟨h1, h0, F', ρ', H', G', h2, hq, h3, h4, h5⟩ := he; exact ⟨h1, h0, F', ρ', H', G', h2, hq, h3, h4, hk _ _ _ _ h4 h5⟩)

def putX (n : Nat) (ps : List Nat) (dst : Option Tmp) (F : Fr) (v : SV) (K : Fr → Prop) : Prop :=
 match dst with
 | none => K F
 | some d => match Nat.blt d n with
  | true => match ps.any (Nat.beq d) with
   | true => False
   | false => eraX F d fun F' => K ((d, v) :: F')
  | false => False
where eraX : Fr → Nat → (Fr → Prop) → Prop
 | [], _, K => K []
 | (j, v) :: r, i, K => match Nat.beq j i with
  | true => eraX r i K
  | false => eraX r i fun l => K ((j, v) :: l)
theorem eraX_ok {F : Fr} {i : Nat} {K : Fr → Prop} (h : putX.eraX F i K) : K (eraseF F i) := by
 induction F generalizing K with
 | nil => exact h
 | cons x r ih =>
  obtain ⟨j, v⟩ := x
  unfold putX.eraX at h
  split at h
  ·rename_i hj
   have : j = i := Nat.eq_of_beq_eq_true hj
   unfold eraseF
   rw [if_pos this]; exact ih h
  ·rename_i hj
   have : ¬ j = i := fun e => by rw [e, Nat.beq_refl] at hj; cases hj
   unfold eraseF
   rw [if_neg this]; exact ih h
theorem putX_ok {ps : List Nat} {dst : Option Tmp} {F : Fr} {v : SV} {K : Fr → Prop} (h : putX n ps dst F v K) : ∃ F', K F' ∧ (∀ d, dst = some d → d ∉ ps) ∧ ∀ ρ (a : Act) (y : Value), a.tmps.size = n → FOk ρ F a.tmps → v.Is ρ y → FOk ρ F' (a.put dst y).tmps := by
 cases dst with
 | none => exact ⟨_, h, fun d e => (nomatch e), fun ρ a y _ hf _ => hf⟩
 | some d =>
  unfold putX at h
  simp only at h
  split at h
  ·rename_i hd
   split at h
   ·exact h.elim
   ·rename_i hp
    refine ⟨(d, v) :: eraseF F d, eraX_ok (K := fun F' => K ((d, v) :: F')) h, fun d' e hm => ?_, fun ρ a y hn hf hv => hf.put (by rw [hn]; simpa using hd) hv⟩
    injection e with e
    subst e
    have := List.any_eq_false.1 hp d hm
    simp at this
  ·exact h.elim
theorem put_size (a : Act) (dst : Option Tmp) (v : Value) : (a.put dst v).tmps.size = a.tmps.size := by cases dst <;> simp [Act.put]
theorem put_defers (a : Act) (dst : Option Tmp) (v : Value) : (a.put dst v).defers = a.defers := by cases dst <;> rfl

def br (t : Bool) (A B : Prop) : Prop :=
 match t with
 | true => A
 | false => B
theorem br.of {t : Bool} {A B : Prop} (h1 : t = true → A) (h2 : t = false → B) : br t A B := by cases t <;> first | exact h1 rfl | exact h2 rfl
def guards (ops : List Oper) (i : Nat) : Bool :=
 match ops with
 | [] => false
 | o :: r => match o.guard with
  | some (j, _) => match Nat.beq j i with
   | true => true
   | false => guards r i
  | none => guards r i
def partBool (b : Bool) (sv : SV) (K : SV → Prop) : Prop :=
 match b with
 | false => K sv
 | true => match sv with
  | .si (.ce (.val (.bool t))) => br t (K (.si (.ce (.val (.bool true))))) (K (.si (.ce (.val (.bool false)))))
  | _ => False
theorem partBool_ok {b : Bool} {sv : SV} {K : SV → Prop} (h : partBool b sv K) : ∃ sv', K sv' ∧ ∀ ρ v, sv.Is ρ v → sv'.Is ρ v := by
 unfold partBool at h
 split at h
 ·exact ⟨sv, h, fun _ _ h => h⟩
 ·split at h
  ·rename_i t
   cases t with
   | true => exact ⟨_, h, fun _ _ h => h⟩
   | false => exact ⟨_, h, fun _ _ h => h⟩
  ·exact h.elim
def wantB (want : Bool) (K : Bool → Prop) (sv : SV) : Prop :=
 match sv with
 | .si (.ce (.val v)) => match v with
  | .bool t => match t with
   | true => K want
   | false => K (!want)
  | .tuple _ => K false
  | _ => False
 | _ => False
theorem wantB_ok {want : Bool} {K : Bool → Prop} {sv : SV} (h : wantB want K sv) : ∃ b, K b ∧ ∀ ρ v, sv.Is ρ v → ((match some v with
  | some (.bool b) => some b
  | _ => none) == some want) = b := by
 unfold wantB at h
 split at h
 ·split at h
  ·split at h
   ·exact ⟨want, h, fun ρ v hv => by obtain rfl : v = _ := hv; cases want <;> rfl⟩
   ·exact ⟨!want, h, fun ρ v hv => by obtain rfl : v = _ := hv; cases want <;> rfl⟩
  ·exact ⟨false, h, fun ρ v hv => by obtain rfl : v = _ := hv; cases want <;> rfl⟩
  ·exact h.elim
 ·exact h.elim
def wantX (ops : List Oper) (F : Fr) (g : Option (Nat × Bool)) (K : Bool → Prop) : Prop :=
 match g with
 | none => K true
 | some (j, want) => nthDst ops j fun d => getX F d fun sv => wantB want K sv
where nthDst : List Oper → Nat → (Nat → Prop) → Prop
 | [], _, _ => False
 | o :: _, 0, K => match o.dst with
  | some d => K d
  | none => False
 | _ :: r, j + 1, K => nthDst r j K
theorem nthDst_ok {ops : List Oper} {j : Nat} {K : Nat → Prop} (h : wantX.nthDst ops j K) : ∃ o d, ops[j]? = some o ∧ o.dst = some d ∧ K d := by
 induction ops generalizing j with
 | nil => exact h.elim
 | cons o r ih =>
  cases j with
  | zero =>
   unfold wantX.nthDst at h
   split at h
   ·rename_i d hd; exact ⟨o, d, rfl, hd, h⟩
   ·exact h.elim
  | succ j => obtain ⟨o', d, h1, h2, h3⟩ := ih h; exact ⟨o', d, by simpa using h1, h2, h3⟩
theorem wantX_ok {ops : Array Oper} {F : Fr} {o : Oper} {K : Bool → Prop} (h : wantX ops.toList F o.guard K) : ∃ b, K b ∧ ∀ ρ (a : Act), FOk ρ F a.tmps → Region.wanted o (yielded ops a.tmps) = b := by
 unfold wantX at h
 unfold Region.wanted
 split at h
 ·rename_i hg
  exact ⟨true, h, fun ρ a _ => by rw [hg]⟩
 ·rename_i j want hg
  obtain ⟨o', d, h1, h2, h⟩ := nthDst_ok h
  obtain ⟨sv, h3, h⟩ := getX_ok h
  obtain ⟨b, h, hb⟩ := wantB_ok h
  have h1' : ops[j]? = some o' := by simpa using h1
  refine ⟨b, h, fun ρ a hf => ?_⟩
  obtain ⟨v, h4, h5⟩ := hf d _ h3
  have := hb ρ v h5
  rw [hg]
  simp only [yielded, h1', h2, Option.bind_some, h4]
  exact this

def opX (P : Program) (T : Tab) (o : Oper) (F : Fr) (H : Hp) (G : List SB) (K : SV → Hp → List SB → Prop) (Kp : List PanicEntry → Hp → List SB → Prop) : Prop :=
 match o.op with
 | .alloc t => allocX T t G fun sv G' => K sv H G'
 | .box t x => evX x F fun sv => boxX t sv G fun sv G' => K sv H G'
 | .store t x y => evX x F fun sx => evX y F fun sy => cellX sx fun c => storeX T t c sy G fun G' => K (pv undef) H G'
 | .buildSlice t len parts => buildSliceX T t len parts.toList F H G K
 | .call c => match c.callee with
  | .value f => evX f F fun fv => evL c.args.toList F fun l => callX P fv l H G K Kp
  | .builtin b => match b with
   | .len => opQ P T o F H G fun sv => K sv H G
   | .max => opQ P T o F H G fun sv => K sv H G
   | .min => opQ P T o F H G fun sv => K sv H G
   | .append => match c.args.toList with
    | [s, x] => match c.argTypes.toList with
     | [t, tx] => evX s F fun ss => evX x F fun sx => appX T t tx ss sx H G fun sv G' => K sv H G'
     | _ => LO P o F H G K Kp
    | _ => LO P o F H G K Kp
   | .copy => match c.args.toList with
    | [s, x] => match c.argTypes.toList with
     | [t, tx] => evX s F fun ss => evX x F fun sx => copyX T t tx ss sx H G fun sv G' => K sv H G'
     | _ => LO P o F H G K Kp
    | _ => LO P o F H G K Kp
   | .unsafeSliceData => match c.args.toList with
    | [s] => evX s F fun ss => sdX T o.type ss G fun sv => K sv H G
    | _ => LO P o F H G K Kp
   | .unsafeString => match c.args.toList with
    | [p, n] => match c.argTypes.toList with
     | [pt, _] => evX p F fun sp => evX n F fun sn => usX T pt sp sn G fun sv G' => K sv H G'
     | _ => LO P o F H G K Kp
    | _ => LO P o F H G K Kp
   | .delete => match c.args.toList with
    | [m, k] => match c.argTypes.toList with
     | [t, _] => evX m F fun sm => evX k F fun sk => delX T t sm sk G fun G' => K (.tu []) H G'
     | _ => LO P o F H G K Kp
    | _ => LO P o F H G K Kp
   | _ => LO P o F H G K Kp
  | _ => LO P o F H G K Kp
 | .lookup t m k ok => evX m F fun sm => evX k F fun sk => lookX T t sm sk ok G fun sv => K sv H G
 | .makeMap t r => match r with
  | none => makeMapX T t G fun sv G' => K sv H G'
  | some _ => LO P o F H G K Kp
 | .mapUpdate t m k x => evX m F fun sm => evX k F fun sk => evX x F fun sv => updX T t sm sk sv G fun G' => K (pv undef) H G'
 | .makeSlice t l c => evX l F fun sl => evX c F fun sc => mkX T t sl sc G fun sv G' => K sv H G'
 | .slice t x lo hi mx => sliceOpX P T o t x lo hi mx F H G K
 | .convert s d x => convOpX P T o s d x F H G K (LO P o F H G K Kp)
 | .typeAssert x _ t ok => evX x F fun sx => taX T t ok sx fun sv => K sv H G
 | .panic x => evX x F fun sx => panX sx fun ch => Kp ch H G
 | .makeChan .. | .mapEntry .. | .entryStore .. | .range .. | .next .. | .entry .. | .insert .. | .defer .. | .go .. | .send .. | .recv .. | .select .. | .ready .. | .waits .. | .sliceToArrayPointer .. => LO P o F H G K Kp
 | _ => opQ P T o F H G fun sv => K sv H G
theorem opX_ok {T : Tab} (hT : TabOk P T) {o : Oper} {F : Fr} {H : Hp} {G : List SB} {K : SV → Hp → List SB → Prop} {Kp : List PanicEntry → Hp → List SB → Prop} (h : opX P T o F H G K Kp) : LO P o F H G K Kp := by
 unfold opX at h
 split at h
 ·rename_i ho; exact allocX_ok hT ho h
 ·rename_i ho; exact boxX_ok ho h
 ·rename_i ho; exact storeX_ok hT ho h
 ·rename_i ho; exact buildSliceX_ok hT ho h
 ·rename_i c ho
  obtain ⟨callee, args, ts⟩ := c
  cases callee with
  | value f => exact callX_ok ho h
  | builtin b =>
   cases b
   case append =>
    simp only at h
    split at h
    ·rename_i s x ha
     split at h
     ·rename_i t tx hb
      have ha' : args = #[s, x] := by rw [← ha]
      have hb' : ts = #[t, tx] := by rw [← hb]
      subst ha' hb'
      exact appX_ok hT ho h
     ·exact h
    ·exact h
   case copy =>
    simp only at h
    split at h
    ·rename_i s x ha
     split at h
     ·rename_i t tx hb
      have ha' : args = #[s, x] := by rw [← ha]
      have hb' : ts = #[t, tx] := by rw [← hb]
      subst ha' hb'
      exact copyX_ok hT ho h
     ·exact h
    ·exact h
   case unsafeSliceData =>
    simp only at h
    split at h
    ·rename_i s ha
     have ha' : args = #[s] := by rw [← ha]
     subst ha'
     exact sdX_ok hT ho h
    ·exact h
   case unsafeString =>
    simp only at h
    split at h
    ·rename_i p n ha
     split at h
     ·rename_i pt it hb
      have ha' : args = #[p, n] := by rw [← ha]
      have hb' : ts = #[pt, it] := by rw [← hb]
      subst ha' hb'
      exact usX_ok hT ho h
     ·exact h
    ·exact h
   case delete =>
    simp only at h
    split at h
    ·rename_i m k ha
     split at h
     ·rename_i t tx hb
      have ha' : args = #[m, k] := by rw [← ha]
      have hb' : ts = #[t, tx] := by rw [← hb]
      subst ha' hb'
      exact delX_ok hT ho h
     ·exact h
    ·exact h
   all_goals first | exact h | exact LO.of_quiet (opQ_ok hT h)
  | invoke r m => exact h
 ·rename_i ho; exact LO.of_quiet (lookX_ok hT ho h)
 ·rename_i t r ho
  split at h
  ·exact makeMapX_ok hT ho h
  ·exact h
 ·rename_i ho; exact updX_ok hT ho h
 ·rename_i ho; exact mkX_ok hT ho h
 ·rename_i ho; exact sliceOpX_ok hT ho h
 ·rename_i ho; exact convOpX_ok hT ho h
 ·rename_i ho; exact LO.of_quiet (taX_ok hT ho h)
 ·rename_i ho; exact panX_ok ho h
 all_goals first | exact h | exact LO.of_quiet (opQ_ok hT h)

theorem upon_mono {o : Oper} {a : Act} {next next' : Act → World → Prop} {Q Q' : Exit → Act → World → Prop} (hn : ∀ a w, next a w → next' a w) (hq : ∀ e a w, Q e a w → Q' e a w) {r : Result Next} (h : o.upon P a next Q r) : o.upon P a next' Q' r := by
 unfold Oper.upon at *
 split <;> simp_all
 ·rename_i f args w'
  refine h.mono fun e w'' he => ?_
  cases e with
  | returned v => exact hn _ _ he
  | panicked ch => exact hq _ _ _ he
  | outgrown => obtain ⟨a0, w0, h0⟩ := he; exact ⟨a0, w0, hq _ _ _ h0⟩
 ·exact h.mono fun v w'' he => hn _ _ he
theorem wpOps_mono {ops : Array Oper} {Q Q' : Exit → Act → World → Prop} (hq : ∀ e a w, Q e a w → Q' e a w) : ∀ (l : List Nat) (a : Act) (w : World), wpOps P ops Q l a w → wpOps P ops Q' l a w
 | [], a, w, h => hq _ _ _ h
 | i :: l, a, w, h => by
  simp only [wpOps] at *
  split
  ·rename_i ho
   rw [ho] at h
   exact wpOps_mono hq l a w h
  ·rename_i o ho
   rw [ho] at h
   simp only at h
   split
   ·rename_i hw
    rw [if_pos hw] at h
    rcases h with h | ⟨h1, a0, w0, h2⟩
    ·exact .inl (upon_mono (fun a w => wpOps_mono hq l a w) hq h)
    ·exact .inr ⟨h1, a0, w0, hq _ _ _ h2⟩
   ·rename_i hw
    rw [if_neg hw] at h
    exact wpOps_mono hq l _ w h

def opsX (P : Program) (T : Tab) (n : Nat) (ps : List Nat) (ops : List Oper) (Kp : List PanicEntry → Hp → List SB → Prop) (i : Nat) (l : List Oper) (F : Fr) (H : Hp) (G : List SB) (K : Fr → Hp → List SB → Prop) : Prop :=
 @List.rec Oper (fun _ => Nat → Fr → Hp → List SB → (Fr → Hp → List SB → Prop) → Prop) (fun _ F H G K => K F H G)
  (fun o _ ih i F H G K => wantX ops F o.guard fun b => match b with
   | true => opX P T o F H G (fun sv H' G' => partBool (guards ops i) sv fun sv => putX n ps o.dst F sv fun F' => ih (i + 1) F' H' G' K) Kp
   | false => putX n ps o.dst F (pv undef) fun F' => ih (i + 1) F' H G K) l i F H G K
theorem opsX_cons {P : Program} {T : Tab} {n : Nat} {ps : List Nat} {ops : List Oper} {Kp : List PanicEntry → Hp → List SB → Prop} {i : Nat} {o : Oper} {r : List Oper} {F : Fr} {H : Hp} {G : List SB} {K : Fr → Hp → List SB → Prop} :
  opsX P T n ps ops Kp i (o :: r) F H G K = (wantX ops F o.guard fun b => match b with
   | true => opX P T o F H G (fun sv H' G' => partBool (guards ops i) sv fun sv => putX n ps o.dst F sv fun F' => opsX P T n ps ops Kp (i + 1) r F' H' G' K) Kp
   | false => putX n ps o.dst F (pv undef) fun F' => opsX P T n ps ops Kp (i + 1) r F' H G K) := rfl
theorem opsX_ok {T : Tab} (hT : TabOk P T) {ops : Array Oper} {K : KT} : ∀ (r : List Oper) (i : Nat) (F : Fr) (H : Hp) (G : List SB), (∀ j, r[j]? = ops[i + j]?) → opsX P T n D.ps ops.toList (fun ch H' G' => K (.panic ch) [] H' G') i r F H G (fun F' H' G' => K .normal F' H' G') →
  ∀ (w0 : World) (M : Nat → Prop) (_ : Gd w0 M) (H0 : Hp) (ρ : List Value) (a : Act) (w : World), St w0 M H0 ρ H G w → FOk ρ F a.tmps → D.On a → a.tmps.size = n →
   wpOps P ops (PostX n e D w0 M H0 ρ H K) ((List.range ops.size).drop i) a w
 | [], i, F, H, G, hr, h, w0, M, hgd, H0, ρ, a, w, hs, hf, hd, hn => by
  have hsz : ops.size ≤ i := by
   have := hr 0
   simp at this
   exact this
  rw [List.drop_of_length_le (by simpa using hsz)]
  exact ⟨hd, hn, F, ρ, H, G, hs, .refl _ _, hf, .refl _, h⟩
 | o :: r, i, F, H, G, hr, h, w0, M, hgd, H0, ρ, a, w, hs, hf, hd, hn => by
  have ho : ops[i]? = some o := by have := hr 0; simpa using this.symm
  have hi : i < ops.size := (Array.getElem?_eq_some_iff.1 ho).1
  have hl : (List.range ops.size).drop i = i :: (List.range ops.size).drop (i + 1) := by
   rw [List.drop_eq_getElem_cons (by simpa using hi)]; simp
  have hr' : ∀ j, r[j]? = ops[i + 1 + j]? := fun j => by have := hr (j + 1); simp at this; rw [this]; congr 1; omega
  rw [opsX_cons] at h
  obtain ⟨b, h, hw⟩ := wantX_ok (ops := ops) h
  rw [hl]
  simp only [wpOps, ho]
  rw [hw ρ a hf]
  cases b with
  | true =>
   simp only [if_true]
   left
   refine upon_of_out (opX_ok hT h w0 M hgd H0 ρ a w hs hf) ?_ ?_
   ·rintro v w' ⟨sv, ρ', H', G', h1, h2, h3, h4, h5⟩
    obtain ⟨sv', h5, h6⟩ := partBool_ok h5
    obtain ⟨F', h5, h8, h7⟩ := putX_ok h5
    have hf' := h7 ρ' a v hn (hf.mono h2) (h6 ρ' v h3)
    have ih := opsX_ok hT r (i + 1) F' H' G' hr' h5 w0 M hgd H0 ρ' (a.put o.dst v) w' h1 hf' (hd.put h8 _) (by rw [put_size]; exact hn)
    exact wpOps_mono (PostX.le h2.toE h4) _ _ _ ih
   ·rintro ch w' ⟨ρ', H', G', h1, h2, h4, h5⟩
    exact ⟨hd, ρ', H', G', h1, h2.toE, h4, h5⟩
  | false =>
   simp only [Bool.false_eq_true, if_false]
   obtain ⟨F', h5, h8, h7⟩ := putX_ok h
   have hf' := h7 ρ a undef hn hf rfl
   exact opsX_ok hT r (i + 1) F' H G hr' h5 w0 M hgd H0 ρ (a.put o.dst undef) w hs hf' (hd.put h8 _) (by rw [put_size]; exact hn)

theorem W.region {T : Tab} (hT : TabOk P T) {id : Nat} {ops : Array Oper} {K : KT} {F : Fr} {H : Hp} {G : List SB}
  (h : opsX P T n D.ps ops.toList (fun ch H' G' => K (.panic ch) [] H' G') 0 ops.toList F H G (fun F' H' G' => K .normal F' H' G')) : W P n e D (.region id ops false) K F H G := by
 intro w0 M hgd H0 ρ a w hs hf hd hn
 refine wp_region ?_
 have := opsX_ok (e := e) hT ops.toList 0 F H G (fun j => by simp) h w0 M hgd H0 ρ a w hs hf hd hn
 simpa using this
def thenK (K1 : Fr → Hp → List SB → Prop) (K : KT) : KT
 | .normal, F, H, G => K1 F H G
 | e, F, H, G => K e F H G
def blockK (id : Nat) (K : KT) : KT
 | .exit j, F, H, G => match Nat.beq j id with
  | true => K .normal F H G
  | false => K (.exit j) F H G
 | e, F, H, G => K e F H G
theorem W.seq {x y : Code} {K : KT} {F : Fr} {H : Hp} {G : List SB} (h : W P n e D x (thenK (W P n e D y K) K) F H G) : W P n e D (.seq x y) K F H G := by
 intro w0 M hgd H0 ρ a w hs hf hd hn
 refine wp_seq (wp_mono (h w0 M hgd H0 ρ a w hs hf hd hn) fun xx a1 w1 he => ?_)
 cases xx with
 | normal =>
  obtain ⟨h1, h0, F', ρ', H', G', h2, hq, h3, h4, h5⟩ := he
  exact wp_mono (h5 w0 M hgd H0 ρ' a1 w1 h2 h3 h1 h0) (PostX.le hq h4)
 | _ => exact he
theorem W.block {id : Nat} {c : Code} {K : KT} {F : Fr} {H : Hp} {G : List SB} (h : W P n e D c (blockK id K) F H G) : W P n e D (.block id c) K F H G := by
 intro w0 M hgd H0 ρ a w hs hf hd hn
 refine wp_block (wp_mono (h w0 M hgd H0 ρ a w hs hf hd hn) fun xx a1 w1 he => ?_)
 cases xx with
 | exit j =>
  obtain ⟨h1, h0, F', ρ', H', G', h2, hq, h3, h4, h5⟩ := he
  simp only [blockK] at h5
  simp only [Exit.inBlock]
  split
  ·rename_i hj
   subst hj
   rw [Nat.beq_refl] at h5
   exact ⟨h1, h0, F', ρ', H', G', h2, hq, h3, h4, h5⟩
  ·rename_i hj
   have : Nat.beq j id = false := by
    cases hb : Nat.beq j id with
    | true => exact absurd (Nat.eq_of_beq_eq_true hb) hj
    | false => rfl
   rw [this] at h5
   exact ⟨h1, h0, F', ρ', H', G', h2, hq, h3, h4, h5⟩
 | _ => exact he
theorem W.skip {K : KT} {F : Fr} {H : Hp} {G : List SB} (h : K .normal F H G) : W P n e D .skip K F H G :=
 fun _ _ _ _ ρ _ _ hs hf hd hn => wp_skip ⟨hd, hn, F, ρ, H, G, hs, .refl _ _, hf, .refl _, h⟩
theorem W.exit {id : Nat} {K : KT} {F : Fr} {H : Hp} {G : List SB} (h : K (.exit id) F H G) : W P n e D (.exit id) K F H G :=
 fun _ _ _ _ ρ _ _ hs hf hd hn => wp_exit ⟨hd, hn, F, ρ, H, G, hs, .refl _ _, hf, .refl _, h⟩
theorem W.ret {K : KT} {F : Fr} {H : Hp} {G : List SB} (h : K .ret F H G) : W P n e D .ret K F H G :=
 fun _ _ _ _ ρ _ _ hs hf hd hn => wp_ret ⟨hd, hn, F, ρ, H, G, hs, .refl _ _, hf, .refl _, h⟩
theorem W.label {l : Nat} {K : KT} {F : Fr} {H : Hp} {G : List SB} (h : K .normal F H G) : W P n e D (.label l) K F H G :=
 fun _ _ _ _ ρ _ _ hs hf hd hn => wp_label ⟨hd, hn, F, ρ, H, G, hs, .refl _ _, hf, .refl _, h⟩
theorem W.goto {l : Nat} {K : KT} {F : Fr} {H : Hp} {G : List SB} (h : K (.goto l) F H G) : W P n e D (.goto l) K F H G :=
 fun _ _ _ _ ρ _ _ hs hf hd hn => wp_goto ⟨hd, hn, F, ρ, H, G, hs, .refl _ _, hf, .refl _, h⟩
theorem W.cond {c : Operand} {x y : Code} {K : KT} {F : Fr} {H : Hp} {G : List SB} (h : evX c F fun sv => boolX sv fun t => br t (W P n e D x K F H G) (W P n e D y K F H G)) : W P n e D (.cond c x y) K F H G := by
 intro w0 M hgd H0 ρ a w hs hf hd hn
 obtain ⟨sv, h, hx⟩ := evX_ok h
 obtain ⟨t, rfl, h⟩ := boolX_ok h
 refine wp_cond_split (t := t) (hx ρ a hf) (fun e => by subst e; exact h w0 M hgd H0 ρ a w hs hf hd hn) (fun e => by subst e; exact h w0 M hgd H0 ρ a w hs hf hd hn)

def codeX (P : Program) (T : Tab) (n e : Nat) (D : Pin) (c : Code) (K : KT) (F : Fr) (H : Hp) (G : List SB) : Prop :=
 @Code.rec (fun _ => KT → Fr → Hp → List SB → Prop)
  (fun K F H G => K .normal F H G)
  (fun id ops draw K F H G => match draw with
   | false => opsX P T n D.ps ops.toList (fun ch H' G' => K (.panic ch) [] H' G') 0 ops.toList F H G (fun F' H' G' => K .normal F' H' G')
   | true => WS P n e D (.region id ops true) K F H G)
  (fun _ _ ihx ihy K F H G => ihx (thenK (ihy K) K) F H G)
  (fun c _ _ ihx ihy K F H G => evX c F fun sv => boolX sv fun t => br t (ihx K F H G) (ihy K F H G))
  (fun id _ ih K F H G => ih (blockK id K) F H G)
  (fun c _ K F H G => WS P n e D (.loop c) K F H G)
  (fun f p a b _ _ K F H G => WS P n e D (.rangeFunc f p a b) K F H G)
  (fun id K F H G => K (.exit id) F H G)
  (fun c _ K F H G => WS P n e D (.scope c) K F H G)
  (fun _ K F H G => K .normal F H G)
  (fun l K F H G => K (.goto l) F H G)
  (fun K F H G => K .ret F H G)
  (fun m K F H G => WS P n e D (.refuse m) K F H G)
  c K F H G
theorem codeX_ok {T : Tab} (hT : TabOk P T) : ∀ (c : Code) {K : KT} {F : Fr} {H : Hp} {G : List SB}, codeX P T n e D c K F H G → W P n e D c K F H G
 | .skip, _, _, _, _, h => W.skip h
 | .region id ops draw, K, F, H, G, h => by
  cases draw with
  | false => exact W.region hT h
  | true => exact h.to
 | .seq x y, K, F, H, G, h => W.seq (W.mono (codeX_ok hT x h) fun xx F' H' G' _ he => by
   cases xx with
   | normal => exact codeX_ok hT y he
   | _ => exact he)
 | .cond c x y, K, F, H, G, h => by
  refine W.cond ?_
  have mono : ∀ {A B : SV → Prop}, (∀ s, A s → B s) → evX c F A → evX c F B := by
   intro A B hab hA
   cases c with
   | tmp t =>
    have : ∀ F : Fr, getX F t A → getX F t B := by
     intro F
     induction F with
     | nil => exact fun h => h
     | cons x r ih =>
      obtain ⟨j, v⟩ := x
      intro h
      unfold getX at h ⊢
      split
      ·rename_i hj; rw [hj] at h; exact hab _ h
      ·rename_i hj; rw [hj] at h; exact ih h
    exact this F hA
   | const v =>
    have hv : ∀ (l : List Value) {A B : List SC → Prop}, (∀ s, A s → B s) → valsX l A → valsX l B := by
     intro l
     induction l with
     | nil => intro A B hab h; exact hab _ h
     | cons v r ih => intro A B hab h; exact ih (fun s hs => hab _ hs) h
    cases v <;> first | exact hv _ (fun s hs => hab _ hs) hA | exact hab _ hA
   | global g => exact hab _ hA
   | func f => exact hab _ hA
  refine mono (fun s hs => ?_) h
  obtain ⟨t, rfl, h1⟩ := boolX_ok hs
  refine br.of (t := t) (fun e => ?_) (fun e => ?_) <;> subst e
  ·exact codeX_ok hT x h1
  ·exact codeX_ok hT y h1
 | .block id c, K, F, H, G, h => W.block (codeX_ok hT c h)
 | .exit id, _, _, _, _, h => W.exit h
 | .label _, _, _, _, _, h => W.label h
 | .goto l, _, _, _, _, h => W.goto h
 | .ret, _, _, _, _, h => W.ret h
 | .loop _, _, _, _, _, h => h.to
 | .rangeFunc .., _, _, _, _, h => h.to
 | .scope _, _, _, _, _, h => h.to
 | .refuse _, _, _, _, _, h => h.to

def resX (P : Program) (T : Tab) (rs : List ResultVar) (F : Fr) (H : Hp) (G : List SB) (K : List SG → Prop) : Prop :=
 match rs with
 | [] => K []
 | .tmp t :: r => getX F t fun sv => match sv with
  | .si g => resX P T r F H G fun l => K (g :: l)
  | _ => False
 | .cell ad t :: r => getX F ad fun sx => match sx with
  | .si (.ce (.ptr k off)) => tabX T t fun ti => loadX ti (.ptr k off) H G fun sv => match sv with
   | .si g => resX P T r F H G fun l => K (g :: l)
   | _ => False
  | _ => False

def resOne (tmps : Array Value) : ResultVar → Sem Value
 | .tmp t => pure (tmps.getD t undef)
 | .cell a t => do loadVar t (← asAddr (tmps.getD a undef))
theorem resX_ok {T : Tab} (hT : TabOk P T) : ∀ {rs : List ResultVar} {F : Fr} {H : Hp} {G : List SB} {K : List SG → Prop}, resX P T rs F H G K →
  ∃ l, K l ∧ ∀ ρ (a : Act) (w : World), Sw ρ H G w → FOk ρ F a.tmps → ∃ ys, (rs.mapM (resOne a.tmps)).run P w = .ok ys w ∧ All2 (SG.Is ρ) l ys
 | [], F, H, G, K, h => ⟨[], h, fun ρ a w _ _ => ⟨[], by simp, .nil⟩⟩
 | .tmp t :: r, F, H, G, K, h => by
  obtain ⟨sv, h1, h⟩ := getX_ok h
  cases sv with
  | si g =>
   obtain ⟨l, h, hl⟩ := resX_ok hT h
   refine ⟨_, h, fun ρ a w hw hf => ?_⟩
   obtain ⟨ys, h2, h3⟩ := hl ρ a w hw hf
   obtain ⟨v, h4, h5⟩ := hf t _ h1
   refine ⟨v :: ys, ?_, .cons h5 h3⟩
   simp only [List.mapM_cons, Sem.run_bind, resOne, Sem.run_pure, Result.andThen_ok, h2, Array.getD_eq_getD_getElem?, h4, Option.getD_some]
  | tu _ => exact h.elim
 | .cell ad t :: r, F, H, G, K, h => by
  obtain ⟨sx, h1, h⟩ := getX_ok h
  split at h
  ·rename_i k off
   obtain ⟨ti, ht, h⟩ := tabX_ok hT h
   obtain ⟨sv, h, hload⟩ := loadX_ok ht h
   cases sv with
   | si g =>
    obtain ⟨l, h, hl⟩ := resX_ok hT h
    refine ⟨_, h, fun ρ a w hw hf => ?_⟩
    obtain ⟨ys, h2, h3⟩ := hl ρ a w hw hf
    obtain ⟨p, h4, h5⟩ := hf ad _ h1
    obtain ⟨v, h6, h7⟩ := hload ρ w p hw h5
    have h8 := h7 w hw
    refine ⟨v :: ys, ?_, .cons h6 h3⟩
    have h9 : ∃ x : Addr, p = .pointer (some x) := by
     obtain ⟨r', _, hp⟩ := h5
     unfold ptrAt at hp
     split at hp <;> first | (injection hp with hp; exact ⟨_, hp.symm⟩) | cases hp
    obtain ⟨x, rfl⟩ := h9
    have h10 : (loadVar t x).run P w = .ok v w := by
     simp only [Instr.loadAt, Instr.sureAddr, pure_bind] at h8; exact h8
    simp only [List.mapM_cons, Sem.run_bind, resOne, Array.getD_eq_getD_getElem?, h4, Option.getD_some, asAddr, Sem.run_pure, Result.andThen_ok, h10, h2]
   | tu _ => exact h.elim
  ·exact h.elim
def trimX (e : Nat) (v : SV) (G : List SB) (K : List SB → Prop) : Prop :=
 match v.wf e && ((G.take e).all (SB.wf e) && Nat.ble e G.length) with
 | true => K (G.take e)
 | false => K G
def endK (P : Program) (T : Tab) (e : Nat) (rs : List ResultVar) (K : SE → Hp → List SB → Prop) : KT
 | .normal, F, H, G => resX P T rs F H G fun l => one l (fun v => trimX e v G fun G' => K (.ret v) H G')
 | .ret, F, H, G => resX P T rs F H G fun l => one l (fun v => trimX e v G fun G' => K (.ret v) H G')
 | .panic ch, _, H, G => trimX e (.tu []) G fun G' => K (.pan ch) H G'
 | _, _, _, _ => False
where one : List SG → (SV → Prop) → Prop
 | [g], K => K (.si g)
 | l, K => K (.tu l)
theorem SC.Is.cut {e : Nat} {ρ : List Value} {c : SC} {y : Value} (hw : c.wf e = true) (h : c.Is ρ y) : c.Is (ρ.take e) y := by
 have key : ∀ {k : Nat} {r : Value}, Nat.blt k e = true → ρ[k]? = some r → (ρ.take e)[k]? = some r := fun {k r} hk hr => by
  rw [List.getElem?_take_of_lt (by simpa using hk)]; exact hr
 cases c with
 | val x => exact h
 | ptr k off => obtain ⟨r, h1, h2⟩ := h; exact ⟨r, key hw h1, h2⟩
 | self k => exact key hw h
 | fn f n caps =>
  obtain ⟨ys, h1, h2⟩ := h
  refine ⟨ys, h1, ?_⟩
  have hw' : ∀ p ∈ caps, Nat.blt p.1 e = true := List.all_eq_true.1 hw
  clear h1 hw
  induction h2 with
  | nil => exact .nil
  | cons hx _ ih =>
   obtain ⟨r, hr, hp⟩ := hx
   exact .cons ⟨r, key (hw' _ List.mem_cons_self) hr, hp⟩ (ih fun p hp => hw' p (List.mem_cons_of_mem _ hp))
 | pp A off => exact h
 | any => trivial
theorem all2_cut {α : Type} {R S : α → Value → Prop} {p : α → Bool} (h : ∀ c y, p c = true → R c y → S c y) : ∀ {l : List α} {m : List Value}, l.all p = true → All2 R l m → All2 S l m
 | [], _, _, h2 => by cases h2; exact .nil
 | a :: l, _, hw, h2 => by
  simp only [List.all_cons, Bool.and_eq_true] at hw
  cases h2 with | cons h3 h4 => exact .cons (h _ _ hw.1 h3) (all2_cut h hw.2 h4)
theorem SG.Is.cut {e : Nat} {ρ : List Value} {c : SG} {y : Value} (hw : c.wf e = true) (h : c.Is ρ y) : c.Is (ρ.take e) y := by
 cases c with
 | ce x => exact SC.Is.cut hw h
 | ag xs => obtain ⟨ys, h1, h2⟩ := h; exact ⟨ys, h1, all2_cut (fun _ _ => SC.Is.cut) hw h2⟩
theorem SV.Is.cut {e : Nat} {ρ : List Value} {c : SV} {y : Value} (hw : c.wf e = true) (h : c.Is ρ y) : c.Is (ρ.take e) y := by
 cases c with
 | si x => exact SG.Is.cut hw h
 | tu xs => obtain ⟨ys, h1, h2⟩ := h; exact ⟨ys, h1, all2_cut (fun _ _ => SG.Is.cut) hw h2⟩
theorem St.cut {w0 : World} {M : Nat → Prop} {H0 : Hp} {ρ : List Value} {H : Hp} {G : List SB} {w : World} (h : St w0 M H0 ρ H G w) (e : Nat) (hw : (G.take e).all (SB.wf e) = true) : St w0 M H0 (ρ.take e) H (G.take e) w := by
 have hb : ∀ k g, blkAt (ρ.take e) (G.take e) k = some g → blkAt ρ G k = some g := fun k g hg => by
  obtain ⟨s, r, h1, h2, h3⟩ := blkAt_some hg
  rw [List.getElem?_take] at h1 h2
  split at h1
  ·rename_i hk
   rw [if_pos hk] at h2
   rw [blkAt_eq h1 h2]; exact h3
  ·cases h1
 refine ⟨h.os, h.tape, h.output, h.size, h.old, h.hle, h.hin, h.hnew, by simp [h.len], ?_, fun k g hg => h.own k g (hb k g hg), fun i j g hi hj => h.inj i j g (hb i g hi) (hb j g hj)⟩
 intro k s r h1 h2
 have hws : s.wf e = true := List.all_eq_true.1 hw _ (List.mem_of_getElem? h1)
 rw [List.getElem?_take] at h1 h2
 split at h1
 ·rename_i hk
  rw [if_pos hk] at h2
  have hok := h.ok k s r h1 h2
  cases s with
  | box t cs => obtain ⟨g, ys, e1, e2, e3⟩ := hok; exact ⟨g, ys, e1, e2, all2_cut (fun _ _ => SC.Is.cut) hws e3⟩
  | _ => exact hok
 ·cases h1
theorem results_eq (fn : Func) (tmps : Array Value) : results fn tmps = (do
  let vs ← fn.results.mapM (resOne tmps)
  pure (if h : vs.size = 1 then vs[0] else .tuple vs)) := by
 unfold results
 congr 1
def packR : List Value → Value
 | [v] => v
 | ys => .tuple ys.toArray
theorem run_results {fn : Func} {tmps : Array Value} {w : World} {ys : List Value} (h : (fn.results.toList.mapM (resOne tmps)).run P w = .ok ys w) :
  (results fn tmps).run P w = .ok (packR ys) w := by
 rw [results_eq]
 simp only [Array.mapM_eq_mapM_toList, Sem.run_bind, Sem.run_map, h, Result.andThen_ok]
 match ys with
 | [] => simp [packR]
 | [v] => simp [packR]
 | _ :: _ :: _ => simp [packR]
theorem one_ok {l : List SG} {K : SV → Prop} (h : endK.one l K) : ∃ sv, K sv ∧ ∀ ρ ys, All2 (SG.Is ρ) l ys → sv.Is ρ (packR ys) := by
 unfold endK.one at h
 split at h
 ·refine ⟨_, h, fun ρ ys hy => ?_⟩
  cases hy with | cons h1 h2 => cases h2; exact h1
 ·rename_i l hl
  refine ⟨_, h, fun ρ ys hy => ⟨ys, ?_, hy⟩⟩
  match ys with
  | [] => rfl
  | [v] => cases hy with | cons h1 h2 => cases h2; exact absurd rfl (hl _)
  | _ :: _ :: _ => rfl
def startF : Nat → List SV → Fr
 | _, [] => []
 | i, v :: r => (i, v) :: startF (i + 1) r
theorem startF_mem {i : Nat} {svs : List SV} {j : Nat} {sv : SV} (h : (j, sv) ∈ startF i svs) : ∃ k, j = i + k ∧ svs[k]? = some sv := by
 induction svs generalizing i with
 | nil => simp [startF] at h
 | cons v r ih =>
  rcases List.mem_cons.1 h with h | h
  ·injection h with h1 h2; subst h1 h2; exact ⟨0, rfl, rfl⟩
  ·obtain ⟨k, h1, h2⟩ := ih h; exact ⟨k + 1, by omega, by simpa using h2⟩
theorem CallO.of_bodyW {T : Tab} (hT : TabOk P T) {f : FuncId} {fn : Func} {c : Code} (hf : P.funcs[f]? = some fn) (hb : fn.body = some c) {svs : List SV} {nt : Nat} (hn : fn.ntmps = nt) (hl : Nat.ble svs.length nt = true) {H : Hp} {G : List SB} {K : SE → Hp → List SB → Prop}
  (h : W P nt G.length .none c (endK P T G.length fn.results.toList K) (startF 0 svs) H G) : CallO P f svs H G K := by
 intro w0 M hgd H0 ρ w vs hs hv
 refine calls_of_wp hf hb ?_
 have hvl := hv.length
 have hle : svs.length ≤ nt := by simpa using hl
 have hsize : (vs.toArray ++ Array.replicate (fn.ntmps - vs.toArray.size) undef).size = nt := by simp; omega
 refine wp_mono (h w0 M hgd H0 ρ ⟨vs.toArray ++ Array.replicate (fn.ntmps - vs.toArray.size) undef, []⟩ w hs ?_ (Pin.on_none.2 rfl) hsize) fun e a w' he => ?_
 ·intro i sv hm
  obtain ⟨k, rfl, hk⟩ := startF_mem hm
  obtain ⟨v, h1, h2⟩ := hv.get hk
  refine ⟨v, ?_, h2⟩
  have hkl := (List.getElem?_eq_some_iff.1 h1).1
  rw [Nat.zero_add, Array.getElem?_append_left (by simpa using hkl)]
  simpa using h1
 ·have up : ∀ {ρ' : List Value}, PreE G.length ρ ρ' → Pre ρ ρ' := fun h k r hk => h k r (by rw [← hs.len]; exact (List.getElem?_eq_some_iff.1 hk).1) hk
  have fin : (Pin.none.On a ∧ a.tmps.size = nt ∧ ∃ F' ρ' H' G', St w0 M H0 ρ' H' G' w' ∧ PreE G.length ρ ρ' ∧ FOk ρ' F' a.tmps ∧ H.Le H' ∧ resX P T fn.results.toList F' H' G' fun l => endK.one l (fun v => trimX G.length v G' fun G2 => K (.ret v) H' G2)) →
    a.defers = [] ∧ ∃ v, (results fn a.tmps).run P w' = .ok v w' ∧ ∃ sv ρ' H' G', St w0 M H0 ρ' H' G' w' ∧ Pre ρ ρ' ∧ sv.Is ρ' v ∧ H.Le H' ∧ K (.ret sv) H' G' := by
   rintro ⟨hd, _, F', ρ', H', G', h1, hq, h2, h3, h4⟩
   obtain ⟨l, h4, hl⟩ := resX_ok hT h4
   obtain ⟨sv, h4, hsv⟩ := one_ok h4
   obtain ⟨ys, h5, h6⟩ := hl ρ' a w' h1.sw h2
   refine ⟨Pin.on_none.1 hd, _, run_results h5, ?_⟩
   unfold trimX at h4
   split at h4
   ·rename_i hw
    simp only [Bool.and_eq_true] at hw
    obtain ⟨hw1, hw2, hw3⟩ := hw
    have hw3 : G.length ≤ G'.length := by simpa using hw3
    refine ⟨sv, ρ'.take G.length, H', G'.take G.length, h1.cut _ hw2, fun k r hk => ?_, (hsv ρ' ys h6).cut hw1, h3, h4⟩
    rw [List.getElem?_take_of_lt (by rw [← hs.len]; exact (List.getElem?_eq_some_iff.1 hk).1)]
    exact up hq k r hk
   ·exact ⟨sv, ρ', H', G', h1, up hq, hsv ρ' ys h6, h3, h4⟩
  cases e with
  | normal => exact fin he
  | ret => exact fin he
  | panic ch =>
   obtain ⟨hd, ρ', H', G', h1, h2, h3, h4⟩ := he
   refine ⟨Pin.on_none.1 hd, ?_⟩
   have h4 : trimX G.length (.tu []) G' fun G2 => K (.pan ch) H' G2 := h4
   unfold trimX at h4
   split at h4
   ·rename_i hw
    simp only [Bool.and_eq_true] at hw
    obtain ⟨hw1, hw2, hw3⟩ := hw
    refine ⟨ρ'.take G.length, H', G'.take G.length, h1.cut _ hw2, fun k r hk => ?_, h3, h4⟩
    rw [List.getElem?_take_of_lt (by rw [← hs.len]; exact (List.getElem?_eq_some_iff.1 hk).1)]
    exact up h2 k r hk
   ·exact ⟨ρ', H', G', h1, up h2, h3, h4⟩
  | outgrown => exact he.elim
  | exit id => obtain ⟨_, _, _, _, _, _, _, _, _, _, h5⟩ := he; exact h5.elim
  | goto l => obtain ⟨_, _, _, _, _, _, _, _, _, _, h5⟩ := he; exact h5.elim
theorem CallO.of_body {T : Tab} (hT : TabOk P T) {f : FuncId} {fn : Func} {c : Code} (hf : P.funcs[f]? = some fn) (hb : fn.body = some c) {svs : List SV} {nt : Nat} (hn : fn.ntmps = nt) (hl : Nat.ble svs.length nt = true) {H : Hp} {G : List SB} {K : SE → Hp → List SB → Prop}
  (h : codeX P T nt G.length .none c (endK P T G.length fn.results.toList K) (startF 0 svs) H G) : CallO P f svs H G K :=
 CallO.of_bodyW hT hf hb hn hl (codeX_ok hT c h)
end
end Go.Kx
