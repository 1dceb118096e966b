/- The statements of layer 13: their anchor. No condition of its own. -/
import Derived.Test.YtdknmcaemebgfaaGreatDoorMY16
import Derived.Test.YtdknmcaemebgfaaGreatDoorProg
import Derived.WalkKit
import Derived.WalkMore
import Derived.Below
import Derived.Shelf.Strings.MapAny
import Derived.Shelf.Strings.LastIndex
import Derived.Lib.LaidU8
import Derived.Lib.TrimUEq
namespace Go.Kx.L13
open Go.Proofs Go.Kx Go.RowKit Go.Kx.Js Go.Kx.Pr Go.Kx.Rt Go.Kx.Ob Go.Kx.Wo Go.Kx.Cl Go.Kx.Pa Go.Kx.Su Go.Kx.Se
set_option maxRecDepth 20000
set_option linter.unusedSimpArgs false
def T : Tab := [(25, { k := TK.st [(0, 9, 1), (1, 9, 1), (2, 9, 1), (3, 3, 1), (4, 9, 1), (5, 23, 3), (8, 3, 1), (9, 9, 1)], agg := true, size := 10, bytes := 144, zero := [Z.s, Z.s, Z.s, Z.i IntKind.i64, Z.s, Z.s, Z.s, Z.s, Z.i IntKind.i64, Z.s] }), (34, { k := TK.st [(0, 3, 1), (1, 4, 1), (2, 9, 1), (3, 31, 1), (4, 32, 1)], agg := true, size := 5, bytes := 80, zero := [Z.i IntKind.i64, Z.b, Z.s, Z.sl, Z.sl] }), (52, { k := TK.st [(0, 9, 1), (1, 34, 5)], agg := true, size := 6, bytes := 96, zero := [Z.s, Z.i IntKind.i64, Z.b, Z.s, Z.sl, Z.sl] }), (5, { k := TK.int IntKind.u8, agg := false, size := 1, bytes := 1, zero := [Z.i IntKind.u8] }), (9, { k := TK.string, agg := false, size := 1, bytes := 16, zero := [Z.s] }), (23, { k := TK.st [(0, 9, 1), (1, 9, 1), (2, 9, 1)], agg := true, size := 3, bytes := 48, zero := [Z.s, Z.s, Z.s] }), (4, { k := TK.bool, agg := false, size := 1, bytes := 1, zero := [Z.b] }), (3, { k := TK.int IntKind.i64, agg := false, size := 1, bytes := 8, zero := [Z.i IntKind.i64] }), (55, { k := TK.slice 5, agg := false, size := 1, bytes := 24, zero := [Z.sl] }), (35, { k := TK.int IntKind.i64, agg := false, size := 1, bytes := 8, zero := [Z.i IntKind.i64] }), (28, { k := TK.st [(0, 9, 1), (1, 9, 1), (2, 9, 1), (3, 3, 1), (4, 9, 1), (5, 9, 1), (6, 9, 1), (7, 9, 1), (8, 3, 1), (9, 9, 1)], agg := true, size := 10, bytes := 144, zero := [Z.s, Z.s, Z.s, Z.i IntKind.i64, Z.s, Z.s, Z.s, Z.s, Z.i IntKind.i64, Z.s] }), (62, { k := TK.slice 9, agg := false, size := 1, bytes := 24, zero := [Z.sl] }), (31, { k := TK.slice 34, agg := false, size := 1, bytes := 24, zero := [Z.sl] }), (32, { k := TK.slice 52, agg := false, size := 1, bytes := 24, zero := [Z.sl] })]
set_option maxRecDepth 100000 in
theorem tab : TabOk Tryz.prog T := tabOk_mk (ts := [25, 34, 52, 5, 9, 23, 4, 3, 55, 35, 28, 62, 31, 32]) (by kernel_rfl)
theorem mixed : Tryz.prog.follows .mixedOrders = true := by kernel_rfl
def smpC : Clm := ⟨⟨#[105]⟩, ⟨#[106]⟩, ⟨#[97]⟩, 5, ⟨#[116]⟩, ⟨sOpaque, ⟨#[117]⟩, ⟨#[]⟩⟩, 3, ⟨#[]⟩⟩
def keyL : List UInt8 := ([48, 49, 50, 51, 52, 53, 54, 55, 56, 57, 97, 98, 99, 100, 101, 102] : List UInt8)
theorem smp_right : clRight smpC = true := by decide +kernel
theorem smp_sign : ∃ s, csignP smpC ⟨#[107, 49]⟩ keyL = (s, 0) := by
 unfold csignP
 rw [smp_right, if_neg (by decide)]
 unfold Jw.signP
 have h1 : (Wo.wordP 40 ⟨#[107, 49]⟩ && Wo.wordP 40 sType) = true := by decide +kernel
 rw [h1, if_neg (by decide), if_neg (by have := cl_wrl ((right_iff _).1 smp_right); omega), if_neg (by decide)]
 exact ⟨_, rfl⟩
theorem sign_size {kid typ : ByteArray} {pl key : List UInt8} {s : ByteArray} {x : Int} (h : Jw.signP kid typ pl key = (s, x)) : s.size ≤ 49152 := by
 unfold Jw.signP at h
 split at h
 ·injection h with h; rw [← h]; decide
 split at h
 ·injection h with h; rw [← h]; decide
 split at h
 ·injection h with h; rw [← h]; decide
 rename_i h1 h2 h3
 injection h with h
 simp only [Bool.not_eq_false, Bool.and_eq_true] at h1
 have l1 := Jw.encP_len _ (wrJ (Jw.headJ kid typ)) (Nat.lt_succ_self _)
 have l2 := Jw.encP_len _ pl (Nat.lt_succ_self _)
 have l3 := Jw.encP_len _ (Sha.hmac key (Jw.signedP kid typ pl)) (Nat.lt_succ_self _)
 have l4 : (Sha.hmac key (Jw.signedP kid typ pl)).length = 32 := Sha.sha_length _
 have l5 := Jw.head_len h1.1 h1.2
 have lsg : (Jw.signedP kid typ pl).length = (En.encP (wrJ (Jw.headJ kid typ))).length + ((En.encP pl).length + 1) := by unfold Jw.signedP; rw [List.length_append, List.length_cons]
 rw [← h, Jw.bs_size]
 unfold Jw.tokenP
 rw [List.length_append, List.length_cons]
 omega
theorem csign_size {c : Clm} {kid : ByteArray} {key : List UInt8} {s : ByteArray} {x : Int} (h : csignP c kid key = (s, x)) : s.size ≤ 49152 := by
 unfold csignP at h
 split at h
 ·injection h with h; rw [← h]; decide
 ·exact sign_size h
def cellsC (c : Clm) : List Value := [.string c.iss, .string c.jti, .string c.aud, .int .i64 c.iat, .string c.txn, .string c.sub.fmt, .string c.sub.id, .string c.sub.own, .int .i64 c.kind, .string c.reason]
def ksC : List CK := [.s, .s, .s, .i .i64, .s, .s, .s, .s, .i .i64, .s]
structure FitC (c : Clm) : Prop where
 a : c.iss.size ≤ maxLen
 b : c.jti.size ≤ maxLen
 c' : c.aud.size ≤ maxLen
 n : (Lit.int .i64 c.iat).wf = true
 t : c.txn.size ≤ maxLen
 f : c.sub.fmt.size ≤ maxLen
 i : c.sub.id.size ≤ maxLen
 o : c.sub.own.size ≤ maxLen
 k : (Lit.int .i64 c.kind).wf = true
 r : c.reason.size ≤ maxLen
theorem FitC.lits {c : Clm} (h : FitC c) : (litsK ksC (cellsC c)).isSome = true := by
 unfold ksC cellsC
 simp only [litsK, ckLit, if_pos h.a, if_pos h.b, if_pos h.c', h.n, if_pos h.t, if_pos h.f, if_pos h.i, if_pos h.o, h.k, if_pos h.r, Option.bind_some, Option.map_some, and_self, if_true, Option.isSome_some]
theorem cellsC_inj {c d : Clm} : cellsC c = cellsC d ↔ c = d := by
 constructor
 ·intro h
  obtain ⟨a, b, c', n, t, ⟨f, i, o⟩, k, r⟩ := c
  obtain ⟨a2, b2, c2, n2, t2, ⟨f2, i2, o2⟩, k2, r2⟩ := d
  simp only [cellsC, List.cons.injEq, Value.string.injEq, Value.int.injEq, true_and, and_true] at h
  obtain ⟨rfl, rfl, rfl, rfl, rfl, rfl, rfl, rfl, rfl, rfl⟩ := h
  rfl
 ·rintro rfl; rfl
theorem gC : Tryz.prog.eqGuardType Tryz.prog.depth 25 = false := by kernel_rfl
theorem kC : Tryz.prog.keyTypeAt 8 25 = true := by kernel_rfl
theorem sC : shapeK Tryz.prog 8 25 = some ksC := by kernel_rfl
theorem fC (c : Clm) : (Value.agg (cellsC c).toArray).formed Tryz.prog 25 = true := by kernel_rfl
theorem smp_fit : FitC smpC := ⟨by decide, by decide, by decide, by decide, by decide, by decide, by decide, by decide, by decide, by decide⟩
theorem sample_ (H : Hp) : CallO Tryz.prog 28 [] H [] fun e H' G' => e = .ret (.si (.ag (csC smpC))) ∧ H' = H ∧ G' = [] := by
 refine CallO.of_body tab Tryz.func28 rfl (nt := Tryz.f28.ntmps) rfl (by kernel_rfl) ?_
 (conv => whnf)
 exact ⟨rfl, rfl, rfl⟩
theorem anchor_ (H : Hp) (hE : ErrH H) : CallO Tryz.prog 8 [] H [] fun e H' G' => e = .ret (pv (.bool true)) ∧ H.Le H' ∧ G' = [] := by
 obtain ⟨tok, hsg⟩ := smp_sign
 have hrd := sign_read hsg
 refine CallO.of_body tab Tryz.func8 rfl (nt := Tryz.f8.ntmps) rfl (by kernel_rfl) ?_
 (conv => whnf)
 refine ⟨⟨_, Tryz.func27, rfl, by kernel_rfl⟩, CallS.use (name_ 3 (by decide) (by decide) H) [] rfl rfl trivial ?_⟩
 rintro e H1 G' hle1 ⟨rfl, hle1', rfl⟩
 (conv => whnf)
 refine ⟨by decide, .inr ?_⟩
 refine ⟨rfl, ?_⟩
 (conv => whnf)
 change LO _ _ _ _ _ _ _
 refine LO.convOwn (t := 55) (e := 5) (et := 5) (x := .tmp 12) (n := 16) (xs := bCells keyL) ?_ 0 ?_ ?_ (by decide) (by kernel_rfl) (by kernel_rfl) ?_
 ·rfl
 ·rfl
 ·rfl
 intro g c2 H2 hle2 hkr
 (conv => whnf)
 have hkb : BytesAt H2 (some g) 16 keyL := .lit rfl hkr
 refine ⟨⟨_, Tryz.func28, rfl, by kernel_rfl⟩, CallS.use (sample_ H2) [] rfl rfl trivial ?_⟩
 rintro e H3 G' hle3 ⟨rfl, rfl, rfl⟩
 (conv => whnf)
 have hs := sign_ smpC ⟨by decide, by decide⟩ ⟨#[107, 49]⟩ keyL (some g) c2 (by decide) H3 hkb
 rw [hsg] at hs
 refine ⟨⟨_, Tryz.func20, rfl, by kernel_rfl⟩, CallS.use hs [] rfl rfl trivial ?_⟩
 rintro e H4 G' hle4 ⟨rfl, hle4', rfl⟩
 (conv => whnf)
 have hr := read_ tok (by have := csign_size hsg; omega) keyL (some g) 16 c2 (by decide) H4 (hE.mono ((hle1.trans hle2).trans hle4)) (hkb.mono hle4)
 rw [hrd] at hr
 refine ⟨⟨_, Tryz.func22, rfl, by kernel_rfl⟩, CallS.use hr [] rfl rfl trivial ?_⟩
 rintro e H5 G' hle5 ⟨rfl, hle5', rfl⟩
 (conv => whnf)
 refine WS.draw tab mixed (.take 0 (.take 1 (.take 2 (.take 3 (.take 4 (.take 5 (.take 6 (.take 7 (.take 8 (.take 9 (.take 10 (.take 11 (.take 12 (.take 13 (.take 14 (.alt 15 (.take 16 (.take 17 (.take 18 .done))) .no)))))))))))))))) (by kernel_rfl) [] ?_
 (conv => whnf)
 refine And.intro ?_ ?_ <;> (conv => whnf)
 rotate_left
 ·exact trivial
 refine ⟨⟨_, Tryz.func28, rfl, by kernel_rfl⟩, CallS.use (sample_ H5) [] rfl rfl trivial ?_⟩
 rintro e H6 G' hle6 ⟨rfl, rfl, rfl⟩
 (conv => whnf)
 refine ⟨⟨trivial, rfl, trivial⟩, ?_⟩
 (conv => whnf)
 change QO _ _ _ _ _ _
 refine QO.agg (t := 25) (ty := 25) (op := .eql) (x := .tmp 40) (y := .tmp 41) ?_ (cellsC smpC) (cellsC smpC) ksC ?_ ?_ gC kC sC (fC _) (fC _) smp_fit.lits smp_fit.lits ?_
 ·rfl
 ·rfl
 ·rfl
 intro r hr
 obtain rfl : r = true := hr.2 rfl
 refine .inl ⟨rfl, ?_⟩
 (conv => whnf)
 exact ⟨rfl, ((hle1.trans hle2).trans hle4).trans hle5, rfl⟩
end Go.Kx.L13
namespace Go.Proofs.YtdknmcaemebgfaaGreatDoor.RowLaid
open Go.Deep Go.ChangeShapes Go.WideShapes Go.ChangeAt Go.RowKit Go.Kx Go.Proofs
set_option maxRecDepth 100000
theorem list10 {α : Type} {l : List α} (h : l.length = 10) : ∃ a b c d e f g i j k, l = [a, b, c, d, e, f, g, i, j, k] := by
 match l, h with
 | [a, b, c, d, e, f, g, i, j, k], _ => exact ⟨a, b, c, d, e, f, g, i, j, k, rfl⟩
theorem list3 {α : Type} {l : List α} (h : l.length = 3) : ∃ a b c, l = [a, b, c] := by
 match l, h with
 | [a, b, c], _ => exact ⟨a, b, c, rfl⟩
section
variable {H : Type} {enc : TypeId × Value → H} {w : World} {base : Nat} {spare : Nat → Bool} {held : Bool}
theorem cell_s {n : Nat} {cs : List Value} {o : Option (DataW H × List MemPlace)} {c : Value} (h : DataW.trod enc Tryz.prog w base spare held n 9 cs = o) (ho : o ≠ none) (hc : cs = [c]) : ∃ s : ByteArray, c = .string s ∧ s.size ≤ maxLen := by
 cases o with
 | none => exact absurd rfl ho
 | some x =>
  obtain ⟨s, e, _, h2⟩ := DataW.trod_string Tryz.underlying9 h
  rw [hc] at e
  injection e with e
  exact ⟨s, e, h2⟩
theorem cell_i {n : Nat} {cs : List Value} {o : Option (DataW H × List MemPlace)} {c : Value} (h : DataW.trod enc Tryz.prog w base spare held n 3 cs = o) (ho : o ≠ none) (hc : cs = [c]) : ∃ i : Int, c = .int .i64 i ∧ (Lit.int .i64 i).wf = true := by
 cases o with
 | none => exact absurd rfl ho
 | some x =>
  obtain ⟨s, e, _, h2⟩ := DataW.trod_int Tryz.underlying3 h
  rw [hc] at e
  injection e with e
  exact ⟨s, e, h2⟩
theorem some_of {α : Type} {xs : List α} {i k : Nat} (h : xs.length = k) (hi : i < k) : xs[i]? ≠ none := by
 rw [List.getElem?_eq_getElem (by omega)]; simp
theorem e9 : Tryz.prog.cellsOf 9 = 1 := by kernel_rfl
theorem e3 : Tryz.prog.cellsOf 3 = 1 := by kernel_rfl
theorem e23 : Tryz.prog.cellsOf 23 = 3 := by kernel_rfl
theorem e25 : Tryz.prog.cellsOf 25 = 10 := by kernel_rfl
theorem takeS {l : List Value} (k : Nat) {c : Value} (h : l[k]? = some c) : List.take (Tryz.prog.cellsOf 9) (List.drop k l) = [c] := by
 rw [e9, List.drop_eq_getElem?_toList_append, h]; rfl
theorem takeI {l : List Value} (k : Nat) {c : Value} (h : l[k]? = some c) : List.take (Tryz.prog.cellsOf 3) (List.drop k l) = [c] := by
 rw [e3, List.drop_eq_getElem?_toList_append, h]; rfl
theorem takeB {l : List Value} (k : Nat) {a b c : Value} (h : l.drop k = a :: b :: c :: l.drop (k + 3)) : List.take (Tryz.prog.cellsOf 23) (List.drop k l) = [a, b, c] := by
 rw [e23, h]; rfl
theorem cell_sub {n : Nat} {cs : List Value} {o : Option (DataW H × List MemPlace)} {a b c : Value} (h : DataW.trod enc Tryz.prog w base spare held n 23 cs = o) (ho : o ≠ none) (hc : cs = [a, b, c]) : ∃ s t u : ByteArray, a = .string s ∧ b = .string t ∧ c = .string u ∧ s.size ≤ maxLen ∧ t.size ≤ maxLen ∧ u.size ≤ maxLen := by
 cases o with
 | none => exact absurd rfl ho
 | some x =>
  obtain ⟨xs, m, _, _, _, hl, hf⟩ := DataW.trod_struct Tryz.underlying23 h
  subst hc
  obtain ⟨s, rfl, h1⟩ := cell_s (hf 0 _ rfl) (some_of hl (by decide)) (takeS 0 rfl)
  obtain ⟨t, rfl, h2⟩ := cell_s (hf 1 _ rfl) (some_of hl (by decide)) (takeS 1 rfl)
  obtain ⟨u, rfl, h3⟩ := cell_s (hf 2 _ rfl) (some_of hl (by decide)) (takeS 2 rfl)
  exact ⟨s, t, u, rfl, rfl, rfl, h1, h2, h3⟩
theorem open_cl {r : Reach} {b0 : Nat} {v : Value} {d : DataW H} {ps : List MemPlace} (hval : Value.okWide Tryz.prog w r b0 25 v) (hd : DataW.Trod enc Tryz.prog w base spare held 25 v d ps) :
  ∃ c : Cl.Clm, v = .agg (L13.cellsC c).toArray ∧ L13.FitC c := by
 obtain ⟨cs, rfl⟩ : ∃ cs, v = .agg cs := by
  simp only [Value.okWide, Tryz.underlying25] at hval
  obtain ⟨cs, h, _⟩ := hval
  exact ⟨cs, h⟩
 obtain ⟨fuel, h⟩ := hd
 obtain ⟨xs, n, _, _, hlen, hl, hf⟩ := DataW.trod_struct Tryz.underlying25 h
 rw [e25] at hlen
 obtain ⟨l⟩ := cs
 obtain ⟨a, b, c, d1, e, f, g, i, j, k, hcs⟩ := list10 hlen
 obtain rfl : l = [a, b, c, d1, e, f, g, i, j, k] := hcs
 obtain ⟨s1, rfl, h1⟩ := cell_s (hf 0 _ rfl) (some_of hl (by decide)) (takeS 0 rfl)
 obtain ⟨s2, rfl, h2⟩ := cell_s (hf 1 _ rfl) (some_of hl (by decide)) (takeS 1 rfl)
 obtain ⟨s3, rfl, h3⟩ := cell_s (hf 2 _ rfl) (some_of hl (by decide)) (takeS 2 rfl)
 obtain ⟨s4, rfl, h4⟩ := cell_i (hf 3 _ rfl) (some_of hl (by decide)) (takeI 3 rfl)
 obtain ⟨s5, rfl, h5⟩ := cell_s (hf 4 _ rfl) (some_of hl (by decide)) (takeS 4 rfl)
 obtain ⟨s6, s7, s8, rfl, rfl, rfl, h6, h7, h8⟩ := cell_sub (hf 5 _ rfl) (some_of hl (by decide)) (takeB 5 rfl)
 obtain ⟨s9, rfl, h9⟩ := cell_i (hf 6 _ rfl) (some_of hl (by decide)) (takeI 8 rfl)
 obtain ⟨s10, rfl, h10⟩ := cell_s (hf 7 _ rfl) (some_of hl (by decide)) (takeS 9 rfl)
 exact ⟨⟨s1, s2, s3, s4, s5, ⟨s6, s7, s8⟩, s9, s10⟩, rfl, ⟨h1, h2, h3, h4, h5, h6, h7, h8, h9, h10⟩⟩
end
theorem is_cl (c : Cl.Clm) : SV.Is [] (.si (.ag (Se.csC c))) (.agg (L13.cellsC c).toArray) :=
 ⟨L13.cellsC c, rfl, .cons rfl (.cons rfl (.cons rfl (.cons rfl (.cons rfl (.cons rfl (.cons rfl (.cons rfl (.cons rfl (.cons rfl .nil)))))))))⟩
end Go.Proofs.YtdknmcaemebgfaaGreatDoor.RowLaid
namespace Go.Proofs
open Go.Shelf
def Tryz.laysMap_ren : Go.Shelf.Ren := ⟨fun | 230 => 56 | 197 => 94 | 118 => 95 | 165 => 96 | 166 => 73 | 168 => 97 | 270 => 98 | 167 => 76 | 169 => 39 | 260 => 133 | 240 => 107 | 241 => 134 | 242 => 135 | 276 => 145 | 277 => 173 | 278 => 174 | n => n, fun | 107 => 101 | 9 => 9 | 72 => 74 | 0 => 0 | 4 => 4 | 3 => 3 | 21 => 21 | 105 => 136 | 76 => 111 | 5 => 5 | 75 => 110 | 70 => 72 | 20 => 20 | 37 => 55 | 127 => 117 | 119 => 210 | 46 => 147 | 139 => 213 | 138 => 212 | 164 => 174 | 51 => 189 | 80 => 42 | n => n, fun | 3 => 1 | 4 => 2 | n => n⟩
theorem Tryz.laysMap : Go.Proofs.Lays.n230 Tryz.prog Tryz.laysMap_ren where
 mixed := by kernel_rfl
 f118 := Tryz.func95.trans (congrArg some (by kernel_rfl))
 f165 := Tryz.func96.trans (congrArg some (by kernel_rfl))
 f166 := Tryz.func73.trans (congrArg some (by kernel_rfl))
 f167 := Tryz.func76.trans (congrArg some (by kernel_rfl))
 f168 := Tryz.func97.trans (congrArg some (by kernel_rfl))
 f169 := Tryz.func39.trans (congrArg some (by kernel_rfl))
 f197 := Tryz.func94.trans (congrArg some (by kernel_rfl))
 f230 := Tryz.func56.trans (congrArg some (by kernel_rfl))
 f240 := Tryz.func107.trans (congrArg some (by kernel_rfl))
 f241 := Tryz.func134.trans (congrArg some (by kernel_rfl))
 f242 := Tryz.func135.trans (congrArg some (by kernel_rfl))
 f260 := Tryz.func133.trans (congrArg some (by kernel_rfl))
 f270 := Tryz.func98.trans (congrArg some (by kernel_rfl))
 f276 := Tryz.func145.trans (congrArg some (by kernel_rfl))
 f277 := Tryz.func173.trans (congrArg some (by kernel_rfl))
 f278 := Tryz.func174.trans (congrArg some (by kernel_rfl))
 t0 := Tryz.underlying0
 a0 := Tryz.isAgg0
 z0 := Tryz.sizeOf0
 v0 := Tryz.zeroValue0
 t3 := Tryz.underlying3
 a3 := Tryz.isAgg3
 z3 := Tryz.sizeOf3
 v3 := Tryz.zeroValue3
 t4 := Tryz.underlying4
 a4 := Tryz.isAgg4
 z4 := Tryz.sizeOf4
 v4 := Tryz.zeroValue4
 t5 := Tryz.underlying5
 a5 := Tryz.isAgg5
 z5 := Tryz.sizeOf5
 v5 := Tryz.zeroValue5
 t9 := Tryz.underlying9
 a9 := Tryz.isAgg9
 z9 := Tryz.sizeOf9
 v9 := Tryz.zeroValue9
 t20 := Tryz.underlying20
 a20 := Tryz.isAgg20
 z20 := Tryz.sizeOf20
 v20 := Tryz.zeroValue20
 t21 := Tryz.underlying21
 a21 := Tryz.isAgg21
 z21 := Tryz.sizeOf21
 v21 := Tryz.zeroValue21
 t37 := Tryz.underlying55
 a37 := Tryz.isAgg55
 z37 := Tryz.sizeOf55
 v37 := Tryz.zeroValue55
 t46 := Tryz.underlying147
 a46 := Tryz.isAgg147
 z46 := Tryz.sizeOf147
 v46 := Tryz.zeroValue147
 t51 := Tryz.underlying189
 a51 := Tryz.isAgg189
 z51 := Tryz.sizeOf189
 v51 := Tryz.zeroValue189
 t70 := Tryz.underlying72
 a70 := Tryz.isAgg72
 z70 := Tryz.sizeOf72
 v70 := Tryz.zeroValue72
 t72 := Tryz.underlying74
 a72 := Tryz.isAgg74
 z72 := Tryz.sizeOf74
 v72 := Tryz.zeroValue74
 t75 := Tryz.underlying110
 a75 := Tryz.isAgg110
 z75 := Tryz.sizeOf110
 v75 := Tryz.zeroValue110
 t76 := Tryz.underlying111
 a76 := Tryz.isAgg111
 z76 := Tryz.sizeOf111
 v76 := Tryz.zeroValue111
 t105 := Tryz.underlying136
 a105 := Tryz.isAgg136
 z105 := Tryz.sizeOf136
 v105 := Tryz.zeroValue136
 t107 := Tryz.underlying101
 a107 := Tryz.isAgg101
 z107 := Tryz.sizeOf101
 v107 := Tryz.zeroValue101
 t119 := Tryz.underlying210
 a119 := Tryz.isAgg210
 z119 := Tryz.sizeOf210
 t127 := Tryz.underlying117
 a127 := Tryz.isAgg117
 z127 := Tryz.sizeOf117
 v127 := Tryz.zeroValue117
 t138 := Tryz.underlying212
 a138 := Tryz.isAgg212
 z138 := Tryz.sizeOf212
 v138 := Tryz.zeroValue212
 t139 := Tryz.underlying213
 a139 := Tryz.isAgg213
 z139 := Tryz.sizeOf213
 v139 := Tryz.zeroValue213
 t164 := Tryz.underlying174
 a164 := Tryz.isAgg174
 z164 := Tryz.sizeOf174
 v164 := Tryz.zeroValue174
 g3 := by kernel_rfl
 g4 := by kernel_rfl
def Tryz.laysLast_ren : Go.Shelf.Ren := ⟨fun | 149 => 58 | 222 => 99 | n => n, fun | 9 => 9 | 5 => 5 | 3 => 3 | 4 => 4 | n => n, fun | n => n⟩
theorem Tryz.laysLast : Go.Proofs.Lays.n149 Tryz.prog Tryz.laysLast_ren where
 mixed := by kernel_rfl
 f149 := Tryz.func58.trans (congrArg some (by kernel_rfl))
 f222 := Tryz.func99.trans (congrArg some (by kernel_rfl))
 t3 := Tryz.underlying3
 a3 := Tryz.isAgg3
 z3 := Tryz.sizeOf3
 v3 := Tryz.zeroValue3
 t4 := Tryz.underlying4
 a4 := Tryz.isAgg4
 z4 := Tryz.sizeOf4
 v4 := Tryz.zeroValue4
 t5 := Tryz.underlying5
 a5 := Tryz.isAgg5
 z5 := Tryz.sizeOf5
 v5 := Tryz.zeroValue5
 t9 := Tryz.underlying9
 a9 := Tryz.isAgg9
 z9 := Tryz.sizeOf9
 v9 := Tryz.zeroValue9

end Go.Proofs
namespace Go.Kx.Ln
open Go.Proofs Go.Kx Go.RowKit Go.Shelf Go.Lib
set_option maxRecDepth 20000
theorem extra : Builder.Extra Tryz.prog Tryz.laysMap_ren where
 sizeBuilder := by kernel_rfl
 liesBuilder := by kernel_rfl
 t5 := Tryz.laysMap.t5
 a5 := Tryz.laysMap.a5
 z5 := Tryz.laysMap.z5
 v5 := Tryz.laysMap.v5
 infoByte := by kernel_rfl
 cellsByte := by kernel_rfl
 sizeByte := by kernel_rfl
 neB5 := by decide
def ctl (r : Int) : Int := if r < 32 then 32 else r
set_option maxHeartbeats 1000000 in
set_option maxRecDepth 1000000 in
theorem clo_pays (w : World) : MapAtRunes Tryz.prog 57 #[] ctl w := by
 intro W x hx hb
 show Calls Tryz.prog 57 #[.int .i32 (x : Int)] W _
 unfold ctl
 by_cases h : (x : Int) < 32
 all_goals (
  go_enter Tryz.func57, Tryz.ntmps57
  go_wp2
  go_ret
  first
   | exact ⟨rfl, 0, rfl⟩
   | exact ⟨rfl, W.drawn, rfl⟩)
theorem ctl_range (x : Nat) (hx : x ≤ 1114111) : 0 ≤ ctl x ∧ ctl x ≤ 2147483647 := by
 unfold ctl
 split <;> omega
def U8H (H : Hp) : Prop := (∀ c, c < 256 → H (Tryz.laysMap_ren.g 3) c = some (.int .u8 (Lib.firstT c))) ∧ (∀ i, i < 16 → H (Tryz.laysMap_ren.g 4) (2 * i) = some (.int .u8 (Lib.accLo i)) ∧ H (Tryz.laysMap_ren.g 4) (2 * i + 1) = some (.int .u8 (Lib.accHi i)))
theorem U8H.mono {H H' : Hp} (h : H.Le H') (hu : U8H H) : U8H H' := ⟨fun c hc => h _ _ _ (hu.1 c hc), fun i hi => ⟨h _ _ _ (hu.2 i hi).1, h _ _ _ (hu.2 i hi).2⟩⟩
theorem map_ (s : ByteArray) (hs : s.size ≤ 1000000) (H : Hp) (hu : U8H H) :
  CallO Tryz.prog 56 [pv (.func (.func 57) #[] #[]), pv (.string s)] H [] fun e H' G' => e = .ret (pv (.string ⟨(Lib.mapD ctl s.data.toList).toArray⟩)) ∧ H' = H ∧ G' = [] := by
 refine (CallO.of_calls (args := [.func (.func 57) #[] #[], .string s]) (R := fun y => y = .string ⟨(Lib.mapD ctl s.data.toList).toArray⟩) fun w hg hin => ?_).mono ?_
 ·have ht : Lib.Utf8Tabs (Tryz.laysMap_ren.g 3) (Tryz.laysMap_ren.g 4) w := ⟨fun c hc => hin _ _ _ (hu.1 c hc), fun i hi => ⟨hin _ _ _ (hu.2 i hi).1, hin _ _ _ (hu.2 i hi).2⟩⟩
  refine (Any.strings_Map_runes Tryz.laysMap extra 57 #[] (enters_of Tryz.func57 (by kernel_rfl) rfl) ctl s w (by omega) (clo_pays w) ctl_range ht).mono fun e w' ⟨he, hb⟩ => ⟨_, he, rfl, grown_of_below hb⟩
 ·rintro e H' G' hle ⟨y, rfl, rfl, rfl, rfl⟩
  exact ⟨rfl, rfl, rfl⟩
theorem fnArg {f : FuncId} {g : Fn} {r : List SV} {H : Hp} {G : List SB} {K : SE → Hp → List SB → Prop} (h : CallO Tryz.prog f (pv (.func g #[] #[]) :: r) H G K) : CallO Tryz.prog f (.si (.ce (.fn g 0 [])) :: r) H G K := by
 intro w0 M hgd H0 ρ w vs hs hv
 cases hv with
 | cons h1 h2 =>
  obtain ⟨ys, rfl, hn⟩ := h1
  cases hn
  exact h w0 M hgd H0 ρ w _ hs (.cons rfl h2)
theorem last_ (s : ByteArray) (hs : s.size ≤ 1000000) (x : Int) (H : Hp) :
  CallO Tryz.prog 58 [pv (.string s), pv (.int .u8 x)] H [] fun e H' G' => e = .ret (pv (.int .i64 (Lib.lastIndexByte s x))) ∧ H' = H ∧ G' = [] := by
 refine (CallO.of_calls (args := [.string s, .int .u8 x]) (R := fun y => y = .int .i64 (Lib.lastIndexByte s x)) fun w hg hin => ?_).mono ?_
 ·refine (Any.strings_LastIndexByte Tryz.laysLast s x (by omega) w).mono fun e w' ⟨he, hw⟩ => ⟨_, he, rfl, ?_⟩
  subst hw
  exact grown_refl _
 ·rintro e H' G' hle ⟨y, rfl, rfl, rfl, rfl⟩
  exact ⟨rfl, rfl, rfl⟩
end Go.Kx.Ln
namespace Go.Proofs
open Go.Shelf
def Tryz.laysSlow_ren : Go.Shelf.Ren := ⟨fun | 260 => 133 | n => n, fun | 9 => 9 | 21 => 21 | 3 => 3 | 4 => 4 | 5 => 5 | 119 => 210 | 0 => 0 | 46 => 147 | 139 => 213 | 138 => 212 | n => n, fun | 3 => 1 | 4 => 2 | n => n⟩
theorem Tryz.laysSlow : Go.Proofs.Lays.n260 Tryz.prog Tryz.laysSlow_ren where
 mixed := by kernel_rfl
 f260 := Tryz.func133.trans (congrArg some (by kernel_rfl))
 t0 := Tryz.underlying0
 a0 := Tryz.isAgg0
 z0 := Tryz.sizeOf0
 v0 := Tryz.zeroValue0
 t3 := Tryz.underlying3
 a3 := Tryz.isAgg3
 z3 := Tryz.sizeOf3
 v3 := Tryz.zeroValue3
 t4 := Tryz.underlying4
 a4 := Tryz.isAgg4
 z4 := Tryz.sizeOf4
 v4 := Tryz.zeroValue4
 t5 := Tryz.underlying5
 a5 := Tryz.isAgg5
 z5 := Tryz.sizeOf5
 v5 := Tryz.zeroValue5
 t9 := Tryz.underlying9
 a9 := Tryz.isAgg9
 z9 := Tryz.sizeOf9
 v9 := Tryz.zeroValue9
 t21 := Tryz.underlying21
 a21 := Tryz.isAgg21
 z21 := Tryz.sizeOf21
 v21 := Tryz.zeroValue21
 t46 := Tryz.underlying147
 a46 := Tryz.isAgg147
 z46 := Tryz.sizeOf147
 v46 := Tryz.zeroValue147
 t119 := Tryz.underlying210
 a119 := Tryz.isAgg210
 z119 := Tryz.sizeOf210
 t138 := Tryz.underlying212
 a138 := Tryz.isAgg212
 z138 := Tryz.sizeOf212
 v138 := Tryz.zeroValue212
 t139 := Tryz.underlying213
 a139 := Tryz.isAgg213
 z139 := Tryz.sizeOf213
 v139 := Tryz.zeroValue213
 g3 := by kernel_rfl
 g4 := by kernel_rfl

end Go.Proofs
namespace Go.Proofs.YtdknmcaemebgfaaGreatDoor.RowLaid
open Go.ChangeShapes Go.WideShapes Go.ChangeAt Go.RowKit Go.Kx Go.Proofs
set_option maxRecDepth 100000
theorem u8x : U8Extra Tryz.prog Tryz.laysSlow_ren where
 n3 := by kernel_rfl
 n4 := by kernel_rfl
 y3 := by kernel_rfl
 y4 := by kernel_rfl
 c5 := by kernel_rfl
 c119 := by kernel_rfl
 c138 := by kernel_rfl
theorem u8H {W : World} (h : laidMetH Tryz.prog laid W) : Ln.U8H (heapOf W) := by
 have h1 := one h "unicode/utf8.first" Rows.laid_unicode_utf8_first (by kernel_rfl) (by kernel_rfl)
 have h2 := one h "unicode/utf8.acceptRanges" Rows.laid_unicode_utf8_acceptRanges (by kernel_rfl) (by kernel_rfl)
 have r1 := Go.Lib.laidMet.reads h1 (List.mem_singleton.2 rfl)
 have r2 := Go.Lib.laidMet.reads h2 (List.mem_singleton.2 rfl)
 rw [show (Rows.laid_unicode_utf8_first : DataW Unit) = Go.Lib.firstData by kernel_rfl] at r1
 rw [show (Rows.laid_unicode_utf8_acceptRanges : DataW Unit) = Go.Lib.acceptData by kernel_rfl] at r2
 have h3 : Lib.Utf8Tabs (Tryz.laysMap_ren.g 3) (Tryz.laysMap_ren.g 4) W := utf8Tabs_of_reads Tryz.laysSlow u8x r1 r2
 exact ⟨fun c hc => by simpa [heapOf] using h3.1 c hc, fun i hi => ⟨by simpa [heapOf] using (h3.2 i hi).1, by simpa [heapOf] using (h3.2 i hi).2⟩⟩
end Go.Proofs.YtdknmcaemebgfaaGreatDoor.RowLaid
namespace Go.Kx.Ln
open Go.Proofs Go.Kx Go.RowKit Go.Kx.Js Go.Kx.Ro
set_option maxRecDepth 20000
set_option linter.unusedSimpArgs false
def low (b : UInt8) : UInt8 := if b < 32 then 32 else b
theorem getD4 (c : UInt8) (t : List UInt8) : Lib.decodeL (c :: t) = Lib.decodeN (t.length + 1) c.toNat (t.getD 0 0).toNat (t.getD 1 0).toNat (t.getD 2 0).toNat := by
 rw [Lib.decodeL_N]; rfl
def DecR (c : UInt8) (t : List UInt8) (n : Nat) : Prop := ∃ r, Lib.decodeN (t.length + 1) c.toNat (t.getD 0 0).toNat (t.getD 1 0).toNat (t.getD 2 0).toNat = (r, n + 1) ∧ (n = 0 → r = c.toNat ∧ c.toNat < 128) ∧ (1 ≤ n → 128 ≤ r ∧ ∀ b ∈ (c :: t).take (n + 1), 128 ≤ b.toNat)
theorem dec_char {c : UInt8} {t : List UInt8} {n : Nat} (h : charP (c :: t) = n + 1) : ∃ r, Lib.decodeL (c :: t) = (r, n + 1) ∧ (n = 0 → r = c.toNat ∧ c.toNat < 128) ∧ (1 ≤ n → 128 ≤ r ∧ ∀ b ∈ (c :: t).take (n + 1), 128 ≤ b.toNat) := by
 have hc := c.toNat_lt
 rw [charP_cons] at h
 rw [getD4]
 change DecR c t n
 have two : ∀ c1 : UInt8, ∀ t', 194 ≤ c.toNat → c.toNat < 224 → t = c1 :: t' → 128 ≤ c1.toNat → c1.toNat ≤ 191 → n = 1 → DecR c t n := by
  rintro c1 t' h1 h2 rfl h3 h4 rfl
  refine ⟨c.toNat % 32 * 64 + c1.toNat % 64, ?_, fun e => (nomatch e), fun _ => ⟨by omega, fun b hb => ?_⟩⟩
  ·unfold Lib.decodeN
   simp only [List.length_cons, List.getD_cons_zero]
   rw [if_neg (by omega), if_pos ⟨by omega, by omega, by omega⟩, if_pos (by omega)]
  ·simp only [List.take_succ_cons, List.take_zero, List.mem_cons, List.mem_nil_iff, or_false] at hb
   rcases hb with rfl | rfl <;> omega
 have three : ∀ c1 c2 : UInt8, ∀ t', 224 ≤ c.toNat → c.toNat < 240 → t = c1 :: c2 :: t' → 128 ≤ c1.toNat → c1.toNat ≤ 191 → 128 ≤ c2.toNat → c2.toNat ≤ 191 → (c.toNat = 224 → 160 ≤ c1.toNat) → (c.toNat = 237 → c1.toNat ≤ 159) → n = 2 → DecR c t n := by
  rintro c1 c2 t' h1 h2 rfl h3 h4 h5 h6 h7 h8 rfl
  refine ⟨c.toNat % 16 * 4096 + c1.toNat % 64 * 64 + c2.toNat % 64, ?_, fun e => (nomatch e), fun _ => ⟨by omega, fun b hb => ?_⟩⟩
  ·unfold Lib.decodeN
   simp only [List.length_cons, List.getD_cons_zero, List.getD_cons_succ]
   rw [if_neg (by omega), if_neg (by omega), if_pos ⟨by omega, ⟨by omega, by omega⟩, by omega, by omega⟩, if_pos (by omega)]
  ·simp only [List.take_succ_cons, List.take_zero, List.mem_cons, List.mem_nil_iff, or_false] at hb
   rcases hb with rfl | rfl | rfl <;> omega
 have four : ∀ c1 c2 c3 : UInt8, ∀ t', 240 ≤ c.toNat → c.toNat ≤ 244 → t = c1 :: c2 :: c3 :: t' → 128 ≤ c1.toNat → c1.toNat ≤ 191 → 128 ≤ c2.toNat → c2.toNat ≤ 191 → 128 ≤ c3.toNat → c3.toNat ≤ 191 → (c.toNat = 240 → 144 ≤ c1.toNat) → (c.toNat = 244 → c1.toNat ≤ 143) → n = 3 → DecR c t n := by
  rintro c1 c2 c3 t' h1 h2 rfl h3 h4 h5 h6 h7 h8 h9 h10 rfl
  refine ⟨c.toNat % 8 * 262144 + c1.toNat % 64 * 4096 + c2.toNat % 64 * 64 + c3.toNat % 64, ?_, fun e => (nomatch e), fun _ => ⟨by omega, fun b hb => ?_⟩⟩
  ·unfold Lib.decodeN
   simp only [List.length_cons, List.getD_cons_zero, List.getD_cons_succ]
   rw [if_neg (by omega), if_neg (by omega), if_neg (by omega), if_pos ⟨by omega, ⟨by omega, by omega⟩, ⟨by omega, by omega⟩, by omega, by omega⟩, if_pos (by omega)]
  ·simp only [List.take_succ_cons, List.take_zero, List.mem_cons, List.mem_nil_iff, or_false] at hb
   rcases hb with rfl | rfl | rfl | rfl <;> omega
 clear hc
 have hn : ∀ {sp : Spans}, behindP c.toNat = some sp → sp.length = n ∧ sp.length ≤ t.length ∧ inSp sp t = true := by
  intro sp hb
  rw [hb] at h
  dsimp only at h
  split at h
  ·omega
  ·split at h
   ·rename_i h1 h2; exact ⟨Nat.add_left_cancel (h.trans (Nat.add_comm n 1)), Nat.lt_succ_iff.1 (Nat.not_le.1 h1), h2⟩
   ·omega
 have one : ∀ {p : Nat × Nat} {r : Spans}, inSp (p :: r) t = true → ∃ c1 t', t = c1 :: t' ∧ p.1 ≤ c1.toNat ∧ c1.toNat ≤ p.2 ∧ inSp r t' = true := by
  intro p r hi
  cases t with
  | nil => simp [inSp] at hi
  | cons c1 t' => simp only [inSp, Bool.and_eq_true, decide_eq_true_eq] at hi; exact ⟨c1, t', rfl, hi.1.1, hi.1.2, hi.2⟩
 have one' : ∀ {t : List UInt8} {p : Nat × Nat} {r : Spans}, inSp (p :: r) t = true → ∃ c1 t', t = c1 :: t' ∧ p.1 ≤ c1.toNat ∧ c1.toNat ≤ p.2 ∧ inSp r t' = true := by
  intro t p r hi
  cases t with
  | nil => simp [inSp] at hi
  | cons c1 t' => simp only [inSp, Bool.and_eq_true, decide_eq_true_eq] at hi; exact ⟨c1, t', rfl, hi.1.1, hi.1.2, hi.2⟩
 cases hb : behindP c.toNat with
 | none => rw [hb] at h; simp at h
 | some sp =>
  obtain ⟨e1, e2, e3⟩ := hn hb
  clear h hn
  unfold behindP at hb
  by_cases g1 : c.toNat < 128
  ·rw [if_pos g1] at hb
   injection hb with hb; subst hb
   obtain rfl : n = 0 := e1.symm
   refine ⟨c.toNat, ?_, fun _ => ⟨rfl, g1⟩, fun h => absurd h (by omega)⟩
   unfold Lib.decodeN
   rw [if_pos g1]
  rw [if_neg g1] at hb
  by_cases g2 : c.toNat < 194
  ·rw [if_pos g2] at hb; cases hb
  rw [if_neg g2] at hb
  by_cases g3 : c.toNat < 224
  ·rw [if_pos g3] at hb
   injection hb with hb; subst hb
   obtain ⟨c1, t', rfl, h3, h4, _⟩ := one' e3
   exact two c1 t' (by omega) g3 rfl h3 h4 e1.symm
  rw [if_neg g3] at hb
  have fin3 : ∀ (p : Nat × Nat), sp = [p, any1] → 128 ≤ p.1 → p.2 ≤ 191 → (c.toNat = 224 → 160 ≤ p.1) → (c.toNat = 237 → p.2 ≤ 159) → c.toNat < 240 → DecR c t n := by
   rintro p rfl a1 a2 a3 a4 a5
   obtain ⟨c1, t', rfl, h3, h4, h5⟩ := one' e3
   obtain ⟨c2, t'', rfl, h6, h7, _⟩ := one' h5
   exact three c1 c2 t'' (by omega) a5 rfl (by omega) (by omega) h6 h7 (fun e => by have := a3 e; omega) (fun e => by have := a4 e; omega) e1.symm
  have fin4 : ∀ (p : Nat × Nat), sp = [p, any1, any1] → 128 ≤ p.1 → p.2 ≤ 191 → (c.toNat = 240 → 144 ≤ p.1) → (c.toNat = 244 → p.2 ≤ 143) → 240 ≤ c.toNat → c.toNat ≤ 244 → DecR c t n := by
   rintro p rfl a1 a2 a3 a4 a5 a6
   obtain ⟨c1, t', rfl, h3, h4, h5⟩ := one' e3
   obtain ⟨c2, t'', rfl, h6, h7, h8⟩ := one' h5
   obtain ⟨c3, t3, rfl, h9, h10, _⟩ := one' h8
   exact four c1 c2 c3 t3 a5 a6 rfl (by omega) (by omega) h6 h7 h9 h10 (fun e => by have := a3 e; omega) (fun e => by have := a4 e; omega) e1.symm
  by_cases g4 : c.toNat = 224
  ·rw [if_pos g4] at hb
   injection hb with hb
   exact fin3 _ hb.symm (by decide) (by decide) (fun _ => by decide) (fun e => by omega) (by omega)
  rw [if_neg g4] at hb
  by_cases g5 : c.toNat = 237
  ·rw [if_pos g5] at hb
   injection hb with hb
   exact fin3 _ hb.symm (by decide) (by decide) (fun e => by omega) (fun _ => by decide) (by omega)
  rw [if_neg g5] at hb
  by_cases g6 : c.toNat < 240
  ·rw [if_pos g6] at hb
   injection hb with hb
   exact fin3 _ hb.symm (by decide) (by decide) (fun e => by omega) (fun e => by omega) (by omega)
  rw [if_neg g6] at hb
  by_cases g7 : c.toNat = 240
  ·rw [if_pos g7] at hb
   injection hb with hb
   exact fin4 _ hb.symm (by decide) (by decide) (fun _ => by decide) (fun e => by omega) (by omega) (by omega)
  rw [if_neg g7] at hb
  by_cases g8 : c.toNat < 244
  ·rw [if_pos g8] at hb
   injection hb with hb
   exact fin4 _ hb.symm (by decide) (by decide) (fun e => by omega) (fun e => by omega) (by omega) (by omega)
  rw [if_neg g8] at hb
  by_cases g9 : c.toNat = 244
  ·rw [if_pos g9] at hb
   injection hb with hb
   exact fin4 _ hb.symm (by decide) (by decide) (fun e => by omega) (fun _ => by decide) (by omega) (by omega)
  rw [if_neg g9] at hb
  cases hb
theorem low_big {b : UInt8} (h : 32 ≤ b.toNat) : low b = b := by
 unfold low
 rw [if_neg (by rw [UInt8.lt_iff_toNat_lt]; show ¬ b.toNat < 32; omega)]
theorem enc_one (x : Nat) (h : x < 128) : Lib.encodeRune (x : Int) = [UInt8.ofNat x] := by
 unfold Lib.encodeRune
 rw [Lib.encodeRuneZ_one (by omega) (by omega)]
 simp
theorem map_told : ∀ {l : List UInt8}, Ro.Told l → Lib.mapD ctl l = l.map low
 | _, .nil => rfl
 | l, .step (n := n) h1 h2 => by
  have ih := map_told h2
  cases l with
  | nil => rw [charP_nil] at h1; omega
  | cons c t =>
   obtain ⟨r, hd, h3, h4⟩ := dec_char h1
   have e1 : (Lib.decodeL (c :: t)).1 = r := by rw [hd]
   have e2 : (Lib.decodeL (c :: t)).2 = n + 1 := by rw [hd]
   rcases Nat.eq_zero_or_pos n with h0 | h0
   ·obtain ⟨rfl, hlt⟩ := h3 h0
    subst h0
    have hs := Lib.mapD_step ctl (c :: t) (List.cons_ne_nil _ _)
    rw [hs, e1, e2, if_pos (by unfold ctl; split <;> omega)]
    have ih : Lib.mapD ctl (List.drop 1 (c :: t)) = (List.drop 1 (c :: t)).map low := ih
    rw [ih]
    show _ ++ t.map low = low c :: t.map low
    unfold ctl
    by_cases hl : (c.toNat : Int) < 32
    ·rw [if_pos hl]
     have : low c = 32 := by unfold low; rw [if_pos (by rw [UInt8.lt_iff_toNat_lt]; show c.toNat < 32; omega)]
     rw [this]; rfl
    ·rw [if_neg hl, enc_one _ hlt, low_big (by omega)]
     simp
   ·obtain ⟨h5, h6⟩ := h4 h0
    rw [Lib.mapD_same ctl (c :: t) (List.cons_ne_nil _ _) (by rw [e1]; exact if_neg (show ¬ (r : Int) < 32 by omega)) (by rw [e2]; omega), e2, ih]
    have : (c :: t).take (n + 1) = ((c :: t).take (n + 1)).map low := by
     conv => lhs; rw [← List.map_id ((c :: t).take (n + 1))]
     exact List.map_congr_left fun b hb => (low_big (b := b) (Nat.le_trans (by decide) (h6 b hb))).symm
    rw [this, ← List.map_append, List.take_append_drop]
end Go.Kx.Ln
namespace Go.Kx.Rf
open Go.Proofs Go.Kx Go.RowKit Go.Kx.Js Go.Kx.Pr
set_option maxRecDepth 20000
set_option linter.unusedSimpArgs false
theorem mixed : Tryz.prog.follows .mixedOrders = true := by kernel_rfl
def T : Tab := [(9, { k := TK.string, agg := false, size := 1, bytes := 16, zero := [Z.s] }), (3, { k := TK.int IntKind.i64, agg := false, size := 1, bytes := 8, zero := [Z.i IntKind.i64] }), (4, { k := TK.bool, agg := false, size := 1, bytes := 1, zero := [Z.b] }), (5, { k := TK.int IntKind.u8, agg := false, size := 1, bytes := 1, zero := [Z.i IntKind.u8] })]
set_option maxRecDepth 100000 in
theorem tab : TabOk Tryz.prog T := tabOk_mk (ts := [9, 3, 4, 5]) (by kernel_rfl)
def inL (l : List UInt8) (i : Nat) (lo hi : Int) : Bool := match l[i]? with
 | some c => decide (lo ≤ (c.toNat : Int)) && decide ((c.toNat : Int) ≤ hi)
 | none => false
theorem in_ (s : ByteArray) (at' : Nat) (lo hi : Int) (ha : at' ≤ 2000000) (H : Hp) : CallO Tryz.prog 140 [pv (.string s), pv (.int .i64 at'), pv (.int .i64 lo), pv (.int .i64 hi)] H [] fun e H' G' => e = .ret (pv (.bool (inL (tL s) at' lo hi))) ∧ H' = H ∧ G' = [] := by
 refine CallO.of_body tab Tryz.func140 rfl (nt := Tryz.f140.ntmps) rfl (by kernel_rfl) ?_
 by_cases h : at' < s.size
 ·obtain ⟨c, hc, hv⟩ := Pa.bAt s at' h
  have hL : inL (tL s) at' lo hi = (decide (lo ≤ (c.toNat : Int)) && decide ((c.toNat : Int) ≤ hi)) := by unfold inL tL; rw [hc]
  rw [hL]
  (conv => whnf)
  rw [decide_eq_true (show (at' : Int) < (s.size : Int) by omega)]
  (conv => whnf)
  refine ⟨⟨by omega, by omega⟩, ?_⟩
  rw [hv]
  (conv => whnf)
  rw [wrap64 (x := (c.toNat : Int)) (by have := c.toNat_lt; omega) (by have := c.toNat_lt; omega)]
  rw [show (decide ((c.toNat : Int) ≥ lo)) = decide (lo ≤ (c.toNat : Int)) from rfl]
  cases h1 : decide (lo ≤ (c.toNat : Int)) <;> (conv => whnf)
  ·exact ⟨rfl, rfl, rfl⟩
  refine ⟨⟨by omega, by omega⟩, ?_⟩
  rw [hv]
  (conv => whnf)
  rw [wrap64 (x := (c.toNat : Int)) (by have := c.toNat_lt; omega) (by have := c.toNat_lt; omega)]
  exact ⟨rfl, rfl, rfl⟩
 ·have hL : inL (tL s) at' lo hi = false := by
   unfold inL
   rw [List.getElem?_eq_none (by rw [← size_eq]; omega)]
  rw [hL]
  (conv => whnf)
  rw [decide_eq_false (show ¬ (at' : Int) < (s.size : Int) by omega)]
  (conv => whnf)
  exact ⟨rfl, rfl, rfl⟩
def chR (c : Int) (l : List UInt8) (i : Nat) : Int :=
 if c < 128 then 1 else
 if (decide (194 ≤ c) && decide (c ≤ 223)) && inL l (i + 1) 128 191 then 2 else
 if ((decide (224 ≤ c) && decide (c ≤ 239)) && inL l (i + 1) (if c = 224 then 160 else 128) (if c = 237 then 159 else 191)) && inL l (i + 2) 128 191 then 3 else
 if (((decide (240 ≤ c) && decide (c ≤ 244)) && inL l (i + 1) (if c = 240 then 144 else 128) (if c = 244 then 143 else 191)) && inL l (i + 2) 128 191) && inL l (i + 3) 128 191 then 4 else 0
theorem inL_cons (x : UInt8) (l : List UInt8) (i : Nat) (lo hi : Int) : inL (x :: l) (i + 1) lo hi = inL l i lo hi := rfl
theorem inL_drop (l : List UInt8) (i k : Nat) (lo hi : Int) : inL (l.drop i) k lo hi = inL l (i + k) lo hi := by unfold inL; rw [List.getElem?_drop]
theorem chR_drop (c : Int) (l : List UInt8) (i : Nat) : chR c l i = chR c (l.drop i) 0 := by
 unfold chR
 simp only [inL_drop]
theorem inL_sp (l : List UInt8) (i a b : Nat) (c : UInt8) (h : l[i]? = some c) : inL l i a b = (decide (a ≤ c.toNat) && decide (c.toNat ≤ b)) := by
 unfold inL
 rw [h]
 simp only [Int.ofNat_le]
theorem inL_none (l : List UInt8) (i : Nat) (a b : Int) (h : l.length ≤ i) : inL l i a b = false := by
 unfold inL
 rw [List.getElem?_eq_none h]
theorem sp1 (a b : Nat) (l : List UInt8) : (if l.length + 1 ≤ 1 then 0 else if inSp [(a, b)] l = true then 1 + 1 else 0 : Nat) = if inL l 0 a b = true then 2 else 0 := by
 cases l with
 | nil => rw [inL_none [] 0 _ _ (Nat.le_refl _)]; rfl
 | cons c l => rw [inL_sp (c :: l) 0 a b c rfl, if_neg (by simp)]; simp only [inSp, Bool.and_true]
theorem sp2 (a b x y : Nat) (l : List UInt8) : (if l.length + 1 ≤ 2 then 0 else if inSp [(a, b), (x, y)] l = true then 1 + 2 else 0 : Nat) = if (inL l 0 a b && inL l 1 x y) = true then 3 else 0 := by
 rcases l with _ | ⟨c, _ | ⟨d, l⟩⟩
 ·rw [inL_none [] 0 _ _ (Nat.le_refl _)]; rfl
 ·rw [inL_none [c] 1 _ _ (Nat.le_refl _), Bool.and_false]; rfl
 ·rw [inL_sp (c :: d :: l) 0 a b c rfl, inL_sp (c :: d :: l) 1 x y d rfl, if_neg (by simp)]; simp only [inSp, Bool.and_true]
theorem sp3 (a b x y u v : Nat) (l : List UInt8) : (if l.length + 1 ≤ 3 then 0 else if inSp [(a, b), (x, y), (u, v)] l = true then 1 + 3 else 0 : Nat) = if ((inL l 0 a b && inL l 1 x y) && inL l 2 u v) = true then 4 else 0 := by
 rcases l with _ | ⟨c, _ | ⟨d, _ | ⟨f, l⟩⟩⟩
 ·rw [inL_none [] 0 _ _ (Nat.le_refl _)]; rfl
 ·rw [inL_none [c] 1 _ _ (Nat.le_refl _), Bool.and_false]; rfl
 ·rw [inL_none [c, d] 2 _ _ (Nat.le_refl _), Bool.and_false]; rfl
 ·rw [inL_sp (c :: d :: f :: l) 0 a b c rfl, inL_sp (c :: d :: f :: l) 1 x y d rfl, inL_sp (c :: d :: f :: l) 2 u v f rfl, if_neg (by simp)]; simp only [inSp, Bool.and_true, Bool.and_assoc]
theorem chR_eq (c : UInt8) (l : List UInt8) : chR (c.toNat : Int) (c :: l) 0 = ((charP (c :: l) : Nat) : Int) := by
 have hc := c.toNat_lt
 have e : (pk (c :: l)).toNat = c.toNat := rfl
 unfold chR charP
 rw [e]
 generalize c.toNat = n at hc
 have k : ∀ a b : Int, a ≤ n → n ≤ b → (decide (a ≤ (n : Int)) && decide ((n : Int) ≤ b)) = true := fun a b h1 h2 => by rw [decide_eq_true h1, decide_eq_true h2]; rfl
 have k' : ∀ a b : Int, (n < a ∨ b < n) → (decide (a ≤ (n : Int)) && decide ((n : Int) ≤ b)) = false := fun a b h => by
  rcases h with h | h
  ·rw [decide_eq_false (show ¬ a ≤ (n : Int) by omega)]; rfl
  ·rw [decide_eq_false (show ¬ (n : Int) ≤ b by omega), Bool.and_false]
 have m : ∀ (i : Nat) lo hi, inL (c :: l) (0 + (i + 1)) lo hi = inL l i lo hi := fun i lo hi => by rw [Nat.zero_add]; rfl
 rw [show (∀ lo hi, inL (c :: l) (0 + 1) lo hi = inL l 0 lo hi) from m 0]
 simp only [show (∀ lo hi, inL (c :: l) (0 + 1) lo hi = inL l 0 lo hi) from m 0, show (∀ lo hi, inL (c :: l) (0 + 2) lo hi = inL l 1 lo hi) from m 1, show (∀ lo hi, inL (c :: l) (0 + 3) lo hi = inL l 2 lo hi) from m 2, List.tail_cons, List.length_cons]
 by_cases h1 : n < 128
 ·rw [if_pos (show (n : Int) < 128 by omega), show behindP n = some [] by unfold behindP; rw [if_pos h1]]
  rfl
 rw [if_neg (show ¬ (n : Int) < 128 by omega)]
 by_cases h2 : n < 194
 ·rw [k' 194 223 (by omega), k' 224 239 (by omega), k' 240 244 (by omega), show behindP n = none by unfold behindP; rw [if_neg h1, if_pos h2]]
  rfl
 by_cases h3 : n < 224
 ·have hb : behindP n = some [(128, 191)] := by unfold behindP any1; repeat' (first | rw [if_pos (by omega)] | rw [if_neg (by omega)])
  rw [k 194 223 (by omega) (by omega), k' 224 239 (by omega), k' 240 244 (by omega), hb]
  show _ = ((if l.length + 1 ≤ 1 then 0 else if inSp [(128, 191)] l = true then 1 + 1 else 0 : Nat) : Int)
  rw [sp1]
  simp only [Bool.true_and, Bool.false_and, Bool.false_eq_true, if_false]
  show (if inL l 0 128 191 = true then (2 : Int) else 0) = ((if inL l 0 128 191 = true then 2 else 0 : Nat) : Int)
  split <;> rfl
 by_cases h4 : n = 224
 ·have hb : behindP n = some [(160, 191), (128, 191)] := by unfold behindP any1; repeat' (first | rw [if_pos (by omega)] | rw [if_neg (by omega)])
  rw [k' 194 223 (by omega), k 224 239 (by omega) (by omega), k' 240 244 (by omega), hb, if_pos (show (n : Int) = 224 by omega), if_neg (show ¬ (n : Int) = 237 by omega)]
  show _ = ((if l.length + 1 ≤ 2 then 0 else if inSp [(160, 191), (128, 191)] l = true then 1 + 2 else 0 : Nat) : Int)
  rw [sp2]
  simp only [Bool.true_and, Bool.false_and, Bool.false_eq_true, if_false]
  show (if (inL l 0 160 191 && inL l 1 128 191) = true then (3 : Int) else 0) = ((if (inL l 0 160 191 && inL l 1 128 191) = true then 3 else 0 : Nat) : Int)
  split <;> rfl
 by_cases h5 : n = 237
 ·have hb : behindP n = some [(128, 159), (128, 191)] := by unfold behindP any1; repeat' (first | rw [if_pos (by omega)] | rw [if_neg (by omega)])
  rw [k' 194 223 (by omega), k 224 239 (by omega) (by omega), k' 240 244 (by omega), hb, if_neg (show ¬ (n : Int) = 224 by omega), if_pos (show (n : Int) = 237 by omega)]
  show _ = ((if l.length + 1 ≤ 2 then 0 else if inSp [(128, 159), (128, 191)] l = true then 1 + 2 else 0 : Nat) : Int)
  rw [sp2]
  simp only [Bool.true_and, Bool.false_and, Bool.false_eq_true, if_false]
  show (if (inL l 0 128 159 && inL l 1 128 191) = true then (3 : Int) else 0) = ((if (inL l 0 128 159 && inL l 1 128 191) = true then 3 else 0 : Nat) : Int)
  split <;> rfl
 by_cases h6 : n < 240
 ·have hb : behindP n = some [(128, 191), (128, 191)] := by unfold behindP any1; repeat' (first | rw [if_pos (by omega)] | rw [if_neg (by omega)])
  rw [k' 194 223 (by omega), k 224 239 (by omega) (by omega), k' 240 244 (by omega), hb, if_neg (show ¬ (n : Int) = 224 by omega), if_neg (show ¬ (n : Int) = 237 by omega)]
  show _ = ((if l.length + 1 ≤ 2 then 0 else if inSp [(128, 191), (128, 191)] l = true then 1 + 2 else 0 : Nat) : Int)
  rw [sp2]
  simp only [Bool.true_and, Bool.false_and, Bool.false_eq_true, if_false]
  show (if (inL l 0 128 191 && inL l 1 128 191) = true then (3 : Int) else 0) = ((if (inL l 0 128 191 && inL l 1 128 191) = true then 3 else 0 : Nat) : Int)
  split <;> rfl
 by_cases h7 : n = 240
 ·have hb : behindP n = some [(144, 191), (128, 191), (128, 191)] := by unfold behindP any1; repeat' (first | rw [if_pos (by omega)] | rw [if_neg (by omega)])
  rw [k' 194 223 (by omega), k' 224 239 (by omega), k 240 244 (by omega) (by omega), hb, if_pos (show (n : Int) = 240 by omega), if_neg (show ¬ (n : Int) = 244 by omega)]
  show _ = ((if l.length + 1 ≤ 3 then 0 else if inSp [(144, 191), (128, 191), (128, 191)] l = true then 1 + 3 else 0 : Nat) : Int)
  rw [sp3]
  simp only [Bool.true_and, Bool.false_and, Bool.false_eq_true, if_false]
  show (if ((inL l 0 144 191 && inL l 1 128 191) && inL l 2 128 191) = true then (4 : Int) else 0) = ((if ((inL l 0 144 191 && inL l 1 128 191) && inL l 2 128 191) = true then 4 else 0 : Nat) : Int)
  split <;> rfl
 by_cases h8 : n < 244
 ·have hb : behindP n = some [(128, 191), (128, 191), (128, 191)] := by unfold behindP any1; repeat' (first | rw [if_pos (by omega)] | rw [if_neg (by omega)])
  rw [k' 194 223 (by omega), k' 224 239 (by omega), k 240 244 (by omega) (by omega), hb, if_neg (show ¬ (n : Int) = 240 by omega), if_neg (show ¬ (n : Int) = 244 by omega)]
  show _ = ((if l.length + 1 ≤ 3 then 0 else if inSp [(128, 191), (128, 191), (128, 191)] l = true then 1 + 3 else 0 : Nat) : Int)
  rw [sp3]
  simp only [Bool.true_and, Bool.false_and, Bool.false_eq_true, if_false]
  show (if ((inL l 0 128 191 && inL l 1 128 191) && inL l 2 128 191) = true then (4 : Int) else 0) = ((if ((inL l 0 128 191 && inL l 1 128 191) && inL l 2 128 191) = true then 4 else 0 : Nat) : Int)
  split <;> rfl
 by_cases h9 : n = 244
 ·have hb : behindP n = some [(128, 143), (128, 191), (128, 191)] := by unfold behindP any1; repeat' (first | rw [if_pos (by omega)] | rw [if_neg (by omega)])
  rw [k' 194 223 (by omega), k' 224 239 (by omega), k 240 244 (by omega) (by omega), hb, if_neg (show ¬ (n : Int) = 240 by omega), if_pos (show (n : Int) = 244 by omega)]
  show _ = ((if l.length + 1 ≤ 3 then 0 else if inSp [(128, 143), (128, 191), (128, 191)] l = true then 1 + 3 else 0 : Nat) : Int)
  rw [sp3]
  simp only [Bool.true_and, Bool.false_and, Bool.false_eq_true, if_false]
  show (if ((inL l 0 128 143 && inL l 1 128 191) && inL l 2 128 191) = true then (4 : Int) else 0) = ((if ((inL l 0 128 143 && inL l 1 128 191) && inL l 2 128 191) = true then 4 else 0 : Nat) : Int)
  split <;> rfl
 have hb : behindP n = none := by unfold behindP any1; repeat' (first | rw [if_pos (by omega)] | rw [if_neg (by omega)])
 rw [k' 194 223 (by omega), k' 224 239 (by omega), k' 240 244 (by omega), hb]
 rfl
theorem character_ (s : ByteArray) (i : Nat) (hi : i < s.size) (hs : s.size ≤ 1000000) (H : Hp) : CallO Tryz.prog 102 [pv (.string s), pv (.int .i64 i)] H [] fun e H' G' => e = .ret (pv (.int .i64 (charP ((tL s).drop i)))) ∧ H' = H ∧ G' = [] := by
 obtain ⟨c, hc, hv⟩ := Pa.bAt s i hi
 have hd : (tL s).drop i = c :: (tL s).drop (i + 1) := by
  rw [List.drop_eq_getElem?_toList_append, show (tL s)[i]? = some c from hc]; rfl
 have hE : ((charP ((tL s).drop i) : Nat) : Int) = chR (c.toNat : Int) (tL s) i := by rw [hd, ← chR_eq, ← hd, ← chR_drop]
 rw [hE]
 have hin := fun k lo hi' (hk : k ≤ 2000000) => in_ s k lo hi' hk H
 obtain ⟨r, hr⟩ : ∃ r, r = chR (c.toNat : Int) (tL s) i := ⟨_, rfl⟩
 rw [← hr]
 have hc2 : (0 : Int) ≤ (c.toNat : Int) ∧ (c.toNat : Int) < 256 := by have := c.toNat_lt; omega
 refine CallO.of_body tab Tryz.func102 rfl (nt := Tryz.f102.ntmps) rfl (by kernel_rfl) ?_
 (conv => whnf)
 refine ⟨⟨by omega, by omega⟩, ?_⟩
 rw [hv]
 (conv => whnf)
 generalize (c.toNat : Int) = m at hc2 hr ⊢
 rw [wrap64 (x := m) (by omega) (by omega)]
 refine br.of (fun h1 => ?_) (fun h1 => ?_) <;> (conv => whnf)
 ·have h1 := of_decide_eq_true h1
  obtain rfl : r = 1 := by rw [hr]; unfold chR; rw [if_pos h1]
  exact ⟨rfl, rfl, rfl⟩
 have h1 := of_decide_eq_false h1
 unfold chR at hr
 rw [if_neg h1] at hr
 by_cases h : m < 194
 ·have hr : r = 0 := by
   rw [hr, if_neg (show ¬ m = 224 by omega), if_neg (show ¬ m = 237 by omega), if_neg (show ¬ m = 240 by omega), if_neg (show ¬ m = 244 by omega)]
   (simp only [Bool.and_true, Bool.and_false, Bool.true_and, Bool.false_and, Bool.and_eq_true, decide_eq_true_eq, Bool.false_eq_true, if_false, if_true]; repeat' split; all_goals omega)
  have q1 : (m == 224) = false := beq_eq_false_iff_ne.2 (by omega)
  have q2 : (m == 237) = false := beq_eq_false_iff_ne.2 (by omega)
  have q3 : (m == 240) = false := beq_eq_false_iff_ne.2 (by omega)
  have q4 : (m == 244) = false := beq_eq_false_iff_ne.2 (by omega)
  have d1 : decide (m ≥ 194) = false := decide_eq_false (by omega)
  have d3 : decide (m ≥ 224) = false := decide_eq_false (by omega)
  have d5 : decide (m ≥ 240) = false := decide_eq_false (by omega)
  rw [d1]
  (conv => whnf)
  rw [q1]
  (conv => whnf)
  rw [q2]
  (conv => whnf)
  rw [d3]
  (conv => whnf)
  rw [q3]
  (conv => whnf)
  rw [q4]
  (conv => whnf)
  rw [d5]
  (conv => whnf)
  exact ⟨by rw [hr]; rfl, rfl, rfl⟩
 by_cases h : m < 224
 ·have hr : r = if inL (tL s) (i + 1) 128 191 then 2 else 0 := by
   rw [hr, if_neg (show ¬ m = 224 by omega), if_neg (show ¬ m = 237 by omega), if_neg (show ¬ m = 240 by omega), if_neg (show ¬ m = 244 by omega)]
   cases inL (tL s) (i + 1) 128 191 <;> (simp only [Bool.and_true, Bool.and_false, Bool.true_and, Bool.false_and, Bool.and_eq_true, decide_eq_true_eq, Bool.false_eq_true, if_false, if_true]; repeat' split; all_goals omega)
  have q1 : (m == 224) = false := beq_eq_false_iff_ne.2 (by omega)
  have q2 : (m == 237) = false := beq_eq_false_iff_ne.2 (by omega)
  have q3 : (m == 240) = false := beq_eq_false_iff_ne.2 (by omega)
  have q4 : (m == 244) = false := beq_eq_false_iff_ne.2 (by omega)
  have d1 : decide (m ≥ 194) = true := decide_eq_true (by omega)
  have d2 : decide (m ≤ 223) = true := decide_eq_true (by omega)
  have d3 : decide (m ≥ 224) = false := decide_eq_false (by omega)
  have d5 : decide (m ≥ 240) = false := decide_eq_false (by omega)
  rw [d1]
  (conv => whnf)
  rw [d2]
  (conv => whnf)
  rw [wrap64 (x := (i : Int) + 1) (by omega) (by omega)]
  refine ⟨⟨_, Tryz.func140, rfl, by kernel_rfl⟩, CallS.use (hin (i + 1) 128 191 (by omega)) [] rfl rfl trivial ?_⟩
  rintro e H2 G' hle2 ⟨rfl, rfl, rfl⟩
  cases a1 : inL (tL s) (i + 1) 128 191 <;> (conv => whnf)
  ·rw [q1]
   (conv => whnf)
   rw [q2]
   (conv => whnf)
   rw [d3]
   (conv => whnf)
   rw [q3]
   (conv => whnf)
   rw [q4]
   (conv => whnf)
   rw [d5]
   (conv => whnf)
   exact ⟨by rw [hr, a1]; rfl, rfl, rfl⟩
  ·exact ⟨by rw [hr, a1]; rfl, rfl, rfl⟩
 by_cases h : m = 224
 ·have hr : r = if inL (tL s) (i + 1) 160 191 && inL (tL s) (i + 2) 128 191 then 3 else 0 := by
   rw [hr, if_pos (show m = 224 by omega), if_neg (show ¬ m = 237 by omega), if_neg (show ¬ m = 240 by omega), if_neg (show ¬ m = 244 by omega)]
   cases inL (tL s) (i + 1) 160 191 <;> cases inL (tL s) (i + 2) 128 191 <;> (simp only [Bool.and_true, Bool.and_false, Bool.true_and, Bool.false_and, Bool.and_eq_true, decide_eq_true_eq, Bool.false_eq_true, if_false, if_true]; repeat' split; all_goals omega)
  have q1 : (m == 224) = true := by rw [beq_iff_eq]; omega
  have q2 : (m == 237) = false := beq_eq_false_iff_ne.2 (by omega)
  have q3 : (m == 240) = false := beq_eq_false_iff_ne.2 (by omega)
  have q4 : (m == 244) = false := beq_eq_false_iff_ne.2 (by omega)
  have d1 : decide (m ≥ 194) = true := decide_eq_true (by omega)
  have d2 : decide (m ≤ 223) = false := decide_eq_false (by omega)
  have d3 : decide (m ≥ 224) = true := decide_eq_true (by omega)
  have d4 : decide (m ≤ 239) = true := decide_eq_true (by omega)
  have d5 : decide (m ≥ 240) = false := decide_eq_false (by omega)
  rw [d1]
  (conv => whnf)
  rw [d2]
  (conv => whnf)
  rw [q1]
  (conv => whnf)
  rw [q2]
  (conv => whnf)
  rw [d3]
  (conv => whnf)
  rw [d4]
  (conv => whnf)
  rw [wrap64 (x := (i : Int) + 1) (by omega) (by omega)]
  refine ⟨⟨_, Tryz.func140, rfl, by kernel_rfl⟩, CallS.use (hin (i + 1) 160 191 (by omega)) [] rfl rfl trivial ?_⟩
  rintro e H2 G' hle2 ⟨rfl, rfl, rfl⟩
  cases a1 : inL (tL s) (i + 1) 160 191 <;> (conv => whnf)
  ·rw [q3]
   (conv => whnf)
   rw [q4]
   (conv => whnf)
   rw [d5]
   (conv => whnf)
   exact ⟨by rw [hr, a1]; rfl, rfl, rfl⟩
  ·rw [wrap64 (x := (i : Int) + 2) (by omega) (by omega)]
   refine ⟨⟨_, Tryz.func140, rfl, by kernel_rfl⟩, CallS.use (hin (i + 2) 128 191 (by omega)) [] rfl rfl trivial ?_⟩
   rintro e H2 G' hle2 ⟨rfl, rfl, rfl⟩
   cases a2 : inL (tL s) (i + 2) 128 191 <;> (conv => whnf)
   ·rw [q3]
    (conv => whnf)
    rw [q4]
    (conv => whnf)
    rw [d5]
    (conv => whnf)
    exact ⟨by rw [hr, a1, a2]; rfl, rfl, rfl⟩
   ·exact ⟨by rw [hr, a1, a2]; rfl, rfl, rfl⟩
 by_cases h : m < 237
 ·have hr : r = if inL (tL s) (i + 1) 128 191 && inL (tL s) (i + 2) 128 191 then 3 else 0 := by
   rw [hr, if_neg (show ¬ m = 224 by omega), if_neg (show ¬ m = 237 by omega), if_neg (show ¬ m = 240 by omega), if_neg (show ¬ m = 244 by omega)]
   cases inL (tL s) (i + 1) 128 191 <;> cases inL (tL s) (i + 2) 128 191 <;> (simp only [Bool.and_true, Bool.and_false, Bool.true_and, Bool.false_and, Bool.and_eq_true, decide_eq_true_eq, Bool.false_eq_true, if_false, if_true]; repeat' split; all_goals omega)
  have q1 : (m == 224) = false := beq_eq_false_iff_ne.2 (by omega)
  have q2 : (m == 237) = false := beq_eq_false_iff_ne.2 (by omega)
  have q3 : (m == 240) = false := beq_eq_false_iff_ne.2 (by omega)
  have q4 : (m == 244) = false := beq_eq_false_iff_ne.2 (by omega)
  have d1 : decide (m ≥ 194) = true := decide_eq_true (by omega)
  have d2 : decide (m ≤ 223) = false := decide_eq_false (by omega)
  have d3 : decide (m ≥ 224) = true := decide_eq_true (by omega)
  have d4 : decide (m ≤ 239) = true := decide_eq_true (by omega)
  have d5 : decide (m ≥ 240) = false := decide_eq_false (by omega)
  rw [d1]
  (conv => whnf)
  rw [d2]
  (conv => whnf)
  rw [q1]
  (conv => whnf)
  rw [q2]
  (conv => whnf)
  rw [d3]
  (conv => whnf)
  rw [d4]
  (conv => whnf)
  rw [wrap64 (x := (i : Int) + 1) (by omega) (by omega)]
  refine ⟨⟨_, Tryz.func140, rfl, by kernel_rfl⟩, CallS.use (hin (i + 1) 128 191 (by omega)) [] rfl rfl trivial ?_⟩
  rintro e H2 G' hle2 ⟨rfl, rfl, rfl⟩
  cases a1 : inL (tL s) (i + 1) 128 191 <;> (conv => whnf)
  ·rw [q3]
   (conv => whnf)
   rw [q4]
   (conv => whnf)
   rw [d5]
   (conv => whnf)
   exact ⟨by rw [hr, a1]; rfl, rfl, rfl⟩
  ·rw [wrap64 (x := (i : Int) + 2) (by omega) (by omega)]
   refine ⟨⟨_, Tryz.func140, rfl, by kernel_rfl⟩, CallS.use (hin (i + 2) 128 191 (by omega)) [] rfl rfl trivial ?_⟩
   rintro e H2 G' hle2 ⟨rfl, rfl, rfl⟩
   cases a2 : inL (tL s) (i + 2) 128 191 <;> (conv => whnf)
   ·rw [q3]
    (conv => whnf)
    rw [q4]
    (conv => whnf)
    rw [d5]
    (conv => whnf)
    exact ⟨by rw [hr, a1, a2]; rfl, rfl, rfl⟩
   ·exact ⟨by rw [hr, a1, a2]; rfl, rfl, rfl⟩
 by_cases h : m = 237
 ·have hr : r = if inL (tL s) (i + 1) 128 159 && inL (tL s) (i + 2) 128 191 then 3 else 0 := by
   rw [hr, if_neg (show ¬ m = 224 by omega), if_pos (show m = 237 by omega), if_neg (show ¬ m = 240 by omega), if_neg (show ¬ m = 244 by omega)]
   cases inL (tL s) (i + 1) 128 159 <;> cases inL (tL s) (i + 2) 128 191 <;> (simp only [Bool.and_true, Bool.and_false, Bool.true_and, Bool.false_and, Bool.and_eq_true, decide_eq_true_eq, Bool.false_eq_true, if_false, if_true]; repeat' split; all_goals omega)
  have q1 : (m == 224) = false := beq_eq_false_iff_ne.2 (by omega)
  have q2 : (m == 237) = true := by rw [beq_iff_eq]; omega
  have q3 : (m == 240) = false := beq_eq_false_iff_ne.2 (by omega)
  have q4 : (m == 244) = false := beq_eq_false_iff_ne.2 (by omega)
  have d1 : decide (m ≥ 194) = true := decide_eq_true (by omega)
  have d2 : decide (m ≤ 223) = false := decide_eq_false (by omega)
  have d3 : decide (m ≥ 224) = true := decide_eq_true (by omega)
  have d4 : decide (m ≤ 239) = true := decide_eq_true (by omega)
  have d5 : decide (m ≥ 240) = false := decide_eq_false (by omega)
  rw [d1]
  (conv => whnf)
  rw [d2]
  (conv => whnf)
  rw [q1]
  (conv => whnf)
  rw [q2]
  (conv => whnf)
  rw [d3]
  (conv => whnf)
  rw [d4]
  (conv => whnf)
  rw [wrap64 (x := (i : Int) + 1) (by omega) (by omega)]
  refine ⟨⟨_, Tryz.func140, rfl, by kernel_rfl⟩, CallS.use (hin (i + 1) 128 159 (by omega)) [] rfl rfl trivial ?_⟩
  rintro e H2 G' hle2 ⟨rfl, rfl, rfl⟩
  cases a1 : inL (tL s) (i + 1) 128 159 <;> (conv => whnf)
  ·rw [q3]
   (conv => whnf)
   rw [q4]
   (conv => whnf)
   rw [d5]
   (conv => whnf)
   exact ⟨by rw [hr, a1]; rfl, rfl, rfl⟩
  ·rw [wrap64 (x := (i : Int) + 2) (by omega) (by omega)]
   refine ⟨⟨_, Tryz.func140, rfl, by kernel_rfl⟩, CallS.use (hin (i + 2) 128 191 (by omega)) [] rfl rfl trivial ?_⟩
   rintro e H2 G' hle2 ⟨rfl, rfl, rfl⟩
   cases a2 : inL (tL s) (i + 2) 128 191 <;> (conv => whnf)
   ·rw [q3]
    (conv => whnf)
    rw [q4]
    (conv => whnf)
    rw [d5]
    (conv => whnf)
    exact ⟨by rw [hr, a1, a2]; rfl, rfl, rfl⟩
   ·exact ⟨by rw [hr, a1, a2]; rfl, rfl, rfl⟩
 by_cases h : m < 240
 ·have hr : r = if inL (tL s) (i + 1) 128 191 && inL (tL s) (i + 2) 128 191 then 3 else 0 := by
   rw [hr, if_neg (show ¬ m = 224 by omega), if_neg (show ¬ m = 237 by omega), if_neg (show ¬ m = 240 by omega), if_neg (show ¬ m = 244 by omega)]
   cases inL (tL s) (i + 1) 128 191 <;> cases inL (tL s) (i + 2) 128 191 <;> (simp only [Bool.and_true, Bool.and_false, Bool.true_and, Bool.false_and, Bool.and_eq_true, decide_eq_true_eq, Bool.false_eq_true, if_false, if_true]; repeat' split; all_goals omega)
  have q1 : (m == 224) = false := beq_eq_false_iff_ne.2 (by omega)
  have q2 : (m == 237) = false := beq_eq_false_iff_ne.2 (by omega)
  have q3 : (m == 240) = false := beq_eq_false_iff_ne.2 (by omega)
  have q4 : (m == 244) = false := beq_eq_false_iff_ne.2 (by omega)
  have d1 : decide (m ≥ 194) = true := decide_eq_true (by omega)
  have d2 : decide (m ≤ 223) = false := decide_eq_false (by omega)
  have d3 : decide (m ≥ 224) = true := decide_eq_true (by omega)
  have d4 : decide (m ≤ 239) = true := decide_eq_true (by omega)
  have d5 : decide (m ≥ 240) = false := decide_eq_false (by omega)
  rw [d1]
  (conv => whnf)
  rw [d2]
  (conv => whnf)
  rw [q1]
  (conv => whnf)
  rw [q2]
  (conv => whnf)
  rw [d3]
  (conv => whnf)
  rw [d4]
  (conv => whnf)
  rw [wrap64 (x := (i : Int) + 1) (by omega) (by omega)]
  refine ⟨⟨_, Tryz.func140, rfl, by kernel_rfl⟩, CallS.use (hin (i + 1) 128 191 (by omega)) [] rfl rfl trivial ?_⟩
  rintro e H2 G' hle2 ⟨rfl, rfl, rfl⟩
  cases a1 : inL (tL s) (i + 1) 128 191 <;> (conv => whnf)
  ·rw [q3]
   (conv => whnf)
   rw [q4]
   (conv => whnf)
   rw [d5]
   (conv => whnf)
   exact ⟨by rw [hr, a1]; rfl, rfl, rfl⟩
  ·rw [wrap64 (x := (i : Int) + 2) (by omega) (by omega)]
   refine ⟨⟨_, Tryz.func140, rfl, by kernel_rfl⟩, CallS.use (hin (i + 2) 128 191 (by omega)) [] rfl rfl trivial ?_⟩
   rintro e H2 G' hle2 ⟨rfl, rfl, rfl⟩
   cases a2 : inL (tL s) (i + 2) 128 191 <;> (conv => whnf)
   ·rw [q3]
    (conv => whnf)
    rw [q4]
    (conv => whnf)
    rw [d5]
    (conv => whnf)
    exact ⟨by rw [hr, a1, a2]; rfl, rfl, rfl⟩
   ·exact ⟨by rw [hr, a1, a2]; rfl, rfl, rfl⟩
 by_cases h : m = 240
 ·have hr : r = if (inL (tL s) (i + 1) 144 191 && inL (tL s) (i + 2) 128 191) && inL (tL s) (i + 3) 128 191 then 4 else 0 := by
   rw [hr, if_neg (show ¬ m = 224 by omega), if_neg (show ¬ m = 237 by omega), if_pos (show m = 240 by omega), if_neg (show ¬ m = 244 by omega)]
   cases inL (tL s) (i + 1) 144 191 <;> cases inL (tL s) (i + 2) 128 191 <;> cases inL (tL s) (i + 3) 128 191 <;> (simp only [Bool.and_true, Bool.and_false, Bool.true_and, Bool.false_and, Bool.and_eq_true, decide_eq_true_eq, Bool.false_eq_true, if_false, if_true]; repeat' split; all_goals omega)
  have q1 : (m == 224) = false := beq_eq_false_iff_ne.2 (by omega)
  have q2 : (m == 237) = false := beq_eq_false_iff_ne.2 (by omega)
  have q3 : (m == 240) = true := by rw [beq_iff_eq]; omega
  have q4 : (m == 244) = false := beq_eq_false_iff_ne.2 (by omega)
  have d1 : decide (m ≥ 194) = true := decide_eq_true (by omega)
  have d2 : decide (m ≤ 223) = false := decide_eq_false (by omega)
  have d3 : decide (m ≥ 224) = true := decide_eq_true (by omega)
  have d4 : decide (m ≤ 239) = false := decide_eq_false (by omega)
  have d5 : decide (m ≥ 240) = true := decide_eq_true (by omega)
  have d6 : decide (m ≤ 244) = true := decide_eq_true (by omega)
  rw [d1]
  (conv => whnf)
  rw [d2]
  (conv => whnf)
  rw [q1]
  (conv => whnf)
  rw [q2]
  (conv => whnf)
  rw [d3]
  (conv => whnf)
  rw [d4]
  (conv => whnf)
  rw [q3]
  (conv => whnf)
  rw [q4]
  (conv => whnf)
  rw [d5]
  (conv => whnf)
  rw [d6]
  (conv => whnf)
  rw [wrap64 (x := (i : Int) + 1) (by omega) (by omega)]
  refine ⟨⟨_, Tryz.func140, rfl, by kernel_rfl⟩, CallS.use (hin (i + 1) 144 191 (by omega)) [] rfl rfl trivial ?_⟩
  rintro e H2 G' hle2 ⟨rfl, rfl, rfl⟩
  cases a1 : inL (tL s) (i + 1) 144 191 <;> (conv => whnf)
  ·exact ⟨by rw [hr, a1]; rfl, rfl, rfl⟩
  ·rw [wrap64 (x := (i : Int) + 2) (by omega) (by omega)]
   refine ⟨⟨_, Tryz.func140, rfl, by kernel_rfl⟩, CallS.use (hin (i + 2) 128 191 (by omega)) [] rfl rfl trivial ?_⟩
   rintro e H2 G' hle2 ⟨rfl, rfl, rfl⟩
   cases a2 : inL (tL s) (i + 2) 128 191 <;> (conv => whnf)
   ·exact ⟨by rw [hr, a1, a2]; rfl, rfl, rfl⟩
   ·rw [wrap64 (x := (i : Int) + 3) (by omega) (by omega)]
    refine ⟨⟨_, Tryz.func140, rfl, by kernel_rfl⟩, CallS.use (hin (i + 3) 128 191 (by omega)) [] rfl rfl trivial ?_⟩
    rintro e H2 G' hle2 ⟨rfl, rfl, rfl⟩
    cases a3 : inL (tL s) (i + 3) 128 191 <;> (conv => whnf)
    ·exact ⟨by rw [hr, a1, a2, a3]; rfl, rfl, rfl⟩
    ·exact ⟨by rw [hr, a1, a2, a3]; rfl, rfl, rfl⟩
 by_cases h : m < 244
 ·have hr : r = if (inL (tL s) (i + 1) 128 191 && inL (tL s) (i + 2) 128 191) && inL (tL s) (i + 3) 128 191 then 4 else 0 := by
   rw [hr, if_neg (show ¬ m = 224 by omega), if_neg (show ¬ m = 237 by omega), if_neg (show ¬ m = 240 by omega), if_neg (show ¬ m = 244 by omega)]
   cases inL (tL s) (i + 1) 128 191 <;> cases inL (tL s) (i + 2) 128 191 <;> cases inL (tL s) (i + 3) 128 191 <;> (simp only [Bool.and_true, Bool.and_false, Bool.true_and, Bool.false_and, Bool.and_eq_true, decide_eq_true_eq, Bool.false_eq_true, if_false, if_true]; repeat' split; all_goals omega)
  have q1 : (m == 224) = false := beq_eq_false_iff_ne.2 (by omega)
  have q2 : (m == 237) = false := beq_eq_false_iff_ne.2 (by omega)
  have q3 : (m == 240) = false := beq_eq_false_iff_ne.2 (by omega)
  have q4 : (m == 244) = false := beq_eq_false_iff_ne.2 (by omega)
  have d1 : decide (m ≥ 194) = true := decide_eq_true (by omega)
  have d2 : decide (m ≤ 223) = false := decide_eq_false (by omega)
  have d3 : decide (m ≥ 224) = true := decide_eq_true (by omega)
  have d4 : decide (m ≤ 239) = false := decide_eq_false (by omega)
  have d5 : decide (m ≥ 240) = true := decide_eq_true (by omega)
  have d6 : decide (m ≤ 244) = true := decide_eq_true (by omega)
  rw [d1]
  (conv => whnf)
  rw [d2]
  (conv => whnf)
  rw [q1]
  (conv => whnf)
  rw [q2]
  (conv => whnf)
  rw [d3]
  (conv => whnf)
  rw [d4]
  (conv => whnf)
  rw [q3]
  (conv => whnf)
  rw [q4]
  (conv => whnf)
  rw [d5]
  (conv => whnf)
  rw [d6]
  (conv => whnf)
  rw [wrap64 (x := (i : Int) + 1) (by omega) (by omega)]
  refine ⟨⟨_, Tryz.func140, rfl, by kernel_rfl⟩, CallS.use (hin (i + 1) 128 191 (by omega)) [] rfl rfl trivial ?_⟩
  rintro e H2 G' hle2 ⟨rfl, rfl, rfl⟩
  cases a1 : inL (tL s) (i + 1) 128 191 <;> (conv => whnf)
  ·exact ⟨by rw [hr, a1]; rfl, rfl, rfl⟩
  ·rw [wrap64 (x := (i : Int) + 2) (by omega) (by omega)]
   refine ⟨⟨_, Tryz.func140, rfl, by kernel_rfl⟩, CallS.use (hin (i + 2) 128 191 (by omega)) [] rfl rfl trivial ?_⟩
   rintro e H2 G' hle2 ⟨rfl, rfl, rfl⟩
   cases a2 : inL (tL s) (i + 2) 128 191 <;> (conv => whnf)
   ·exact ⟨by rw [hr, a1, a2]; rfl, rfl, rfl⟩
   ·rw [wrap64 (x := (i : Int) + 3) (by omega) (by omega)]
    refine ⟨⟨_, Tryz.func140, rfl, by kernel_rfl⟩, CallS.use (hin (i + 3) 128 191 (by omega)) [] rfl rfl trivial ?_⟩
    rintro e H2 G' hle2 ⟨rfl, rfl, rfl⟩
    cases a3 : inL (tL s) (i + 3) 128 191 <;> (conv => whnf)
    ·exact ⟨by rw [hr, a1, a2, a3]; rfl, rfl, rfl⟩
    ·exact ⟨by rw [hr, a1, a2, a3]; rfl, rfl, rfl⟩
 by_cases h : m = 244
 ·have hr : r = if (inL (tL s) (i + 1) 128 143 && inL (tL s) (i + 2) 128 191) && inL (tL s) (i + 3) 128 191 then 4 else 0 := by
   rw [hr, if_neg (show ¬ m = 224 by omega), if_neg (show ¬ m = 237 by omega), if_neg (show ¬ m = 240 by omega), if_pos (show m = 244 by omega)]
   cases inL (tL s) (i + 1) 128 143 <;> cases inL (tL s) (i + 2) 128 191 <;> cases inL (tL s) (i + 3) 128 191 <;> (simp only [Bool.and_true, Bool.and_false, Bool.true_and, Bool.false_and, Bool.and_eq_true, decide_eq_true_eq, Bool.false_eq_true, if_false, if_true]; repeat' split; all_goals omega)
  have q1 : (m == 224) = false := beq_eq_false_iff_ne.2 (by omega)
  have q2 : (m == 237) = false := beq_eq_false_iff_ne.2 (by omega)
  have q3 : (m == 240) = false := beq_eq_false_iff_ne.2 (by omega)
  have q4 : (m == 244) = true := by rw [beq_iff_eq]; omega
  have d1 : decide (m ≥ 194) = true := decide_eq_true (by omega)
  have d2 : decide (m ≤ 223) = false := decide_eq_false (by omega)
  have d3 : decide (m ≥ 224) = true := decide_eq_true (by omega)
  have d4 : decide (m ≤ 239) = false := decide_eq_false (by omega)
  have d5 : decide (m ≥ 240) = true := decide_eq_true (by omega)
  have d6 : decide (m ≤ 244) = true := decide_eq_true (by omega)
  rw [d1]
  (conv => whnf)
  rw [d2]
  (conv => whnf)
  rw [q1]
  (conv => whnf)
  rw [q2]
  (conv => whnf)
  rw [d3]
  (conv => whnf)
  rw [d4]
  (conv => whnf)
  rw [q3]
  (conv => whnf)
  rw [q4]
  (conv => whnf)
  rw [d5]
  (conv => whnf)
  rw [d6]
  (conv => whnf)
  rw [wrap64 (x := (i : Int) + 1) (by omega) (by omega)]
  refine ⟨⟨_, Tryz.func140, rfl, by kernel_rfl⟩, CallS.use (hin (i + 1) 128 143 (by omega)) [] rfl rfl trivial ?_⟩
  rintro e H2 G' hle2 ⟨rfl, rfl, rfl⟩
  cases a1 : inL (tL s) (i + 1) 128 143 <;> (conv => whnf)
  ·exact ⟨by rw [hr, a1]; rfl, rfl, rfl⟩
  ·rw [wrap64 (x := (i : Int) + 2) (by omega) (by omega)]
   refine ⟨⟨_, Tryz.func140, rfl, by kernel_rfl⟩, CallS.use (hin (i + 2) 128 191 (by omega)) [] rfl rfl trivial ?_⟩
   rintro e H2 G' hle2 ⟨rfl, rfl, rfl⟩
   cases a2 : inL (tL s) (i + 2) 128 191 <;> (conv => whnf)
   ·exact ⟨by rw [hr, a1, a2]; rfl, rfl, rfl⟩
   ·rw [wrap64 (x := (i : Int) + 3) (by omega) (by omega)]
    refine ⟨⟨_, Tryz.func140, rfl, by kernel_rfl⟩, CallS.use (hin (i + 3) 128 191 (by omega)) [] rfl rfl trivial ?_⟩
    rintro e H2 G' hle2 ⟨rfl, rfl, rfl⟩
    cases a3 : inL (tL s) (i + 3) 128 191 <;> (conv => whnf)
    ·exact ⟨by rw [hr, a1, a2, a3]; rfl, rfl, rfl⟩
    ·exact ⟨by rw [hr, a1, a2, a3]; rfl, rfl, rfl⟩
 have hr : r = 0 := by
  rw [hr, if_neg (show ¬ m = 224 by omega), if_neg (show ¬ m = 237 by omega), if_neg (show ¬ m = 240 by omega), if_neg (show ¬ m = 244 by omega)]
  (simp only [Bool.and_true, Bool.and_false, Bool.true_and, Bool.false_and, Bool.and_eq_true, decide_eq_true_eq, Bool.false_eq_true, if_false, if_true]; repeat' split; all_goals omega)
 have q1 : (m == 224) = false := beq_eq_false_iff_ne.2 (by omega)
 have q2 : (m == 237) = false := beq_eq_false_iff_ne.2 (by omega)
 have q3 : (m == 240) = false := beq_eq_false_iff_ne.2 (by omega)
 have q4 : (m == 244) = false := beq_eq_false_iff_ne.2 (by omega)
 have d1 : decide (m ≥ 194) = true := decide_eq_true (by omega)
 have d2 : decide (m ≤ 223) = false := decide_eq_false (by omega)
 have d3 : decide (m ≥ 224) = true := decide_eq_true (by omega)
 have d4 : decide (m ≤ 239) = false := decide_eq_false (by omega)
 have d5 : decide (m ≥ 240) = true := decide_eq_true (by omega)
 have d6 : decide (m ≤ 244) = false := decide_eq_false (by omega)
 rw [d1]
 (conv => whnf)
 rw [d2]
 (conv => whnf)
 rw [q1]
 (conv => whnf)
 rw [q2]
 (conv => whnf)
 rw [d3]
 (conv => whnf)
 rw [d4]
 (conv => whnf)
 rw [q3]
 (conv => whnf)
 rw [q4]
 (conv => whnf)
 rw [d5]
 (conv => whnf)
 rw [d6]
 (conv => whnf)
 exact ⟨by rw [hr]; rfl, rfl, rfl⟩
theorem wrong_ (s : ByteArray) (hs : s.size ≤ 1000000) (H : Hp) : CallO Tryz.prog 65 [pv (.string s)] H [] fun e H' G' => e = .ret (pv (.int .i64 (wrongI s))) ∧ H.Le H' ∧ G' = [] := by
 have hsz := size_eq s
 refine CallO.of_body tab Tryz.func65 rfl (nt := Tryz.f65.ntmps) rfl (by kernel_rfl) ?_
 (conv => whnf)
 refine WS.loop (fun k F H2 G => ∃ i j : Nat, i ≤ s.size ∧ s.size < i + j ∧ wrongP ((tL s).length + 1) (tL s) = wrongP j ((tL s).drop i) ∧ k = s.size - i ∧ F = [(0, pv (.string s)), (2, pv (.int .i64 0)), (3, pv (.int .i64 i))] ∧ H.Le H2 ∧ G = []) (s.size + 1) ?_ ?_
 ·refine ⟨s.size, by omega, _, _, [], ⟨0, s.size + 1, by omega, by omega, by rw [hsz]; rfl, rfl, rfl, .refl _, rfl⟩, ?_⟩
  exact ⟨rfl, trivial, rfl, rfl, rfl, trivial⟩
 rintro k F H2 G hle ⟨i, j, hi, hj, hw, rfl, rfl, hle2, rfl⟩
 refine codeL.go tab ?_
 (conv => whnf)
 refine br.of (fun h1 => ?_) (fun h1 => ?_) <;> (conv => whnf)
 ·have h1 := of_decide_eq_true h1
  refine ⟨⟨_, Tryz.func102, rfl, by kernel_rfl⟩, CallS.use (character_ s i (by omega) hs H2) [] rfl rfl trivial ?_⟩
  rintro e H3 G' hle3 ⟨rfl, rfl, rfl⟩
  have hdl : ((tL s).drop i).length = s.size - i := by rw [List.length_drop, hsz]
  obtain ⟨c, l, hcl⟩ : ∃ c l, (tL s).drop i = c :: l := by
   cases hx : (tL s).drop i with
   | nil => rw [hx] at hdl; simp at hdl; omega
   | cons c l => exact ⟨c, l, rfl⟩
  obtain ⟨j, rfl⟩ : ∃ j', j = j' + 1 := ⟨j - 1, by omega⟩
  have hch : charP ((tL s).drop i) ≤ s.size - i := by
   rw [← hdl, hcl]
   unfold charP
   split
   ·omega
   ·split
    ·omega
    ·split <;> omega
  rw [hcl] at hw hch ⊢
  rw [wrongP] at hw
  (conv => whnf)
  refine br.of (fun h2 => ?_) (fun h2 => ?_) <;> (conv => whnf)
  ·simp only [beq_iff_eq] at h2
   rw [if_pos (by omega)] at hw
   refine ⟨?_, hle2, rfl⟩
   unfold wrongI
   rw [hw]
   show _ = SE.ret (pv (.int .i64 ((Js.pos s (c :: l) : Nat) : Int)))
   unfold Js.pos
   rw [← hcl, hdl, ← hsz, show s.size - (s.size - i) = i by omega]
   rfl
  ·simp only [beq_eq_false_iff_ne, ne_eq] at h2
   rw [if_neg (by omega), ← hcl, List.drop_drop] at hw
   rw [hcl] at hw
   generalize charP (c :: l) = q at *
   rw [wrap64 (x := (i : Int) + q) (by omega) (by omega)]
   refine ⟨s.size - (i + q), by omega, _, _, [], ⟨i + q, j, by omega, by omega, hw, rfl, rfl, hle2, rfl⟩, ?_⟩
   exact ⟨rfl, trivial, rfl, rfl, rfl, trivial⟩
 ·have h1 := of_decide_eq_false h1
  obtain rfl : i = s.size := by omega
  obtain ⟨j, rfl⟩ : ∃ j', j = j' + 1 := ⟨j - 1, by omega⟩
  rw [List.drop_of_length_le (by omega), wrongP] at hw
  refine ⟨?_, hle2, rfl⟩
  unfold wrongI
  rw [hw]
  rfl
end Go.Kx.Rf
namespace Go.Kx.Rf
open Go.Proofs Go.Kx Go.RowKit Go.Kx.Js Go.Kx.Pr
set_option maxRecDepth 20000
set_option linter.unusedSimpArgs false
namespace Qu
def T : Tab := [(9, { k := TK.string, agg := false, size := 1, bytes := 16, zero := [Z.s] }), (3, { k := TK.int IntKind.i64, agg := false, size := 1, bytes := 8, zero := [Z.i IntKind.i64] }), (4, { k := TK.bool, agg := false, size := 1, bytes := 1, zero := [Z.b] }), (5, { k := TK.int IntKind.u8, agg := false, size := 1, bytes := 1, zero := [Z.i IntKind.u8] })]
set_option maxRecDepth 100000 in
theorem tab : TabOk Tryz.prog T := tabOk_mk (ts := [9, 3, 4, 5]) (by kernel_rfl)
end Qu
abbrev means : List UInt8 := [8, 12, 10, 13, 9, 34, 92]
def c0 (x : UInt8) : List UInt8 := if x.toNat < 32 then [92, 117, 48, 48, hexL (x.toNat / 16), hexL (x.toNat % 16)] else [x]
def qI (x : UInt8) (k : Nat) : List UInt8 := if (means.take k).contains x then escB x else c0 x
theorem qI_end (x : UInt8) : qI x 7 = escB x := by
 have h : ∀ n : Fin 256, qI (UInt8.ofNat n.val) 7 = escB (UInt8.ofNat n.val) := by decide +kernel
 have h1 := h ⟨x.toNat, x.toNat_lt⟩
 simpa using h1
theorem esc_le (c : UInt8) : (escB c).length ≤ 6 := by
 unfold escB
 repeat' split
 all_goals simp
theorem flat_le : ∀ l : List UInt8, (l.flatMap escB).length ≤ 6 * l.length
 | [] => by simp
 | c :: l => by have := esc_le c; have := flat_le l; simp only [List.flatMap_cons, List.length_append, List.length_cons]; omega
theorem str_app (a b : List UInt8) : (⟨a.toArray⟩ : ByteArray) ++ ⟨b.toArray⟩ = ⟨(a ++ b).toArray⟩ := by
 apply ByteArray.ext
 rw [ByteArray.data_append]; simp
theorem ext1 (s : ByteArray) (i : Nat) (x : UInt8) (h : s.data.toList[i]? = some x) : s.extract i (i + 1) = ⟨#[x]⟩ := by
 have := Lib.extract_mk s.data.toList i (i + 1)
 have e : (⟨s.data.toList.toArray⟩ : ByteArray) = s := by cases s; simp
 rw [e] at this
 rw [this, show i + 1 - i = 1 by omega, List.drop_eq_getElem?_toList_append, h]
 rfl
abbrev hexS : ByteArray := ⟨#[48, 49, 50, 51, 52, 53, 54, 55, 56, 57, 97, 98, 99, 100, 101, 102]⟩
theorem q16 (n : Nat) (h : n < 32) : IntKind.u8.wrap ((n : Int).tdiv 16) = ((n / 16 : Nat) : Int) ∧ IntKind.u8.wrap (((n / 16 : Nat) : Int) + 1) = ((n / 16 + 1 : Nat) : Int) ∧ (n : Int).tmod 16 = ((n % 16 : Nat) : Int) ∧ IntKind.u8.wrap (((n % 16 : Nat) : Int) + 1) = ((n % 16 + 1 : Nat) : Int) := by
 have h1 : ∀ n : Fin 32, IntKind.u8.wrap ((n.val : Int).tdiv 16) = ((n.val / 16 : Nat) : Int) ∧ IntKind.u8.wrap (((n.val / 16 : Nat) : Int) + 1) = ((n.val / 16 + 1 : Nat) : Int) ∧ (n.val : Int).tmod 16 = ((n.val % 16 : Nat) : Int) ∧ IntKind.u8.wrap (((n.val % 16 : Nat) : Int) + 1) = ((n.val % 16 + 1 : Nat) : Int) := by decide +kernel
 exact h1 ⟨n, h⟩
theorem dg (j : Nat) (h : j < 16) : hexS.extract j (j + 1) = ⟨#[hexL j]⟩ := by
 refine ext1 hexS j (hexL j) ?_
 have h1 : ∀ j : Fin 16, hexS.data.toList[j.val]? = some (hexL j.val) := by decide +kernel
 exact h1 ⟨j, h⟩
abbrev shorts : List UInt8 := [98, 102, 110, 114, 116, 34, 92]
theorem qI_hit {j : Nat} (h : j < 7) : ∃ m d, means[j]? = some m ∧ shorts[j]? = some d ∧ qI m (j + 1) = [92, d] := by
 have h1 : ∀ j : Fin 7, means[j.val]? = some (means.getD j.val 0) ∧ shorts[j.val]? = some (shorts.getD j.val 0) ∧ qI (means.getD j.val 0) (j.val + 1) = [92, shorts.getD j.val 0] := by decide +kernel
 exact ⟨_, _, h1 ⟨j, h⟩⟩
theorem qI_miss {j : Nat} {m x : UInt8} (hm : means[j]? = some m) (h : m ≠ x) : qI x (j + 1) = qI x j := by
 unfold qI
 rw [List.take_add_one, hm]
 have e : ((means.take j) ++ (some m).toList).contains x = (means.take j).contains x := by
  rw [List.contains_eq_any_beq, List.contains_eq_any_beq, List.any_append]
  have : (x == m) = false := beq_eq_false_iff_ne.2 (Ne.symm h)
  simp [this]
 rw [e]
theorem quote_ (s : ByteArray) (hs : s.size ≤ 100000) (H : Hp) : CallO Tryz.prog 45 [pv (.string s)] H [] fun e H' G' => e = .ret (pv (.string ⟨(quoteB (tL s)).toArray⟩)) ∧ H' = H ∧ G' = [] := by
 have hsz := size_eq s
 refine CallO.of_body Qu.tab Tryz.func45 rfl (nt := Tryz.f45.ntmps) rfl (by kernel_rfl) ?_
 (conv => whnf)
 refine WS.loop (fun k F H2 G => ∃ i : Nat, i ≤ s.size ∧ k = s.size - i ∧ F = [(0, pv (.string s)), (2, pv (.string ⟨#[]⟩)), (3, pv (.string ⟨#[98, 102, 110, 114, 116, 34, 92]⟩)), (4, pv (.string ⟨#[8, 12, 10, 13, 9, 34, 92]⟩)), (5, pv (.string ⟨([34] ++ ((tL s).take i).flatMap escB).toArray⟩)), (6, pv (.int .i64 i))] ∧ H2 = H ∧ G = []) (s.size + 1) ?_ ?_
 ·refine ⟨s.size, by omega, _, _, [], ⟨0, by omega, rfl, rfl, rfl, rfl⟩, ?_⟩
  exact ⟨rfl, trivial, rfl, rfl, rfl, rfl, rfl, rfl, trivial⟩
 rintro k F H2 G hle ⟨i, hi, rfl, rfl, rfl, rfl⟩
 refine codeL.go Qu.tab ?_
 (conv => whnf)
 refine br.of (fun h1 => ?_) (fun h1 => ?_) <;> (conv => whnf)
 ·have h1 := of_decide_eq_true h1
  rw [wrap64 (x := (i : Int) + 1) (by omega) (by omega)]
  obtain ⟨x, hx, hv⟩ := Pa.bAt s i (by omega)
  refine ⟨⟨by omega, by omega, by omega⟩, ?_⟩
  rw [show s.extract (i : Int).toNat ((i : Int) + 1).toNat = ⟨#[x]⟩ from ext1 s i x hx]
  (conv => whnf)
  refine ⟨⟨by omega, by omega⟩, ?_⟩
  rw [hv]
  (conv => whnf)
  refine br.of (fun h2 => ?_) (fun h2 => ?_) <;> (conv => whnf)
  refine WS.draw Qu.tab Rf.mixed (.take 0 (.take 1 (.take 2 (.take 3 (.take 4 (.take 5 (.take 6 (.take 7 (.take 8 (.take 9 (.take 10 (.take 11 (.take 12 (.take 13 (.take 14 (.take 15 (.take 16 (.take 17 (.take 18 (.take 19 (.take 20 (.take 21 (.take 22 .done))))))))))))))))))))))) (by kernel_rfl) [] ?_
  (conv => whnf)
  rw [hv]
  refine ⟨⟨by omega, by omega⟩, ?_⟩
  (conv => whnf)
  refine ⟨by decide, ?_⟩
  (conv => whnf)
  refine ⟨⟨by omega, by omega⟩, ?_⟩
  rw [hv]
  (conv => whnf)
  refine ⟨by decide, ?_⟩
  (conv => whnf)
  obtain ⟨w1, w2, w3, w4⟩ := q16 x.toNat (by have := of_decide_eq_true h2; omega)
  rw [w1, w2]
  have hx32 : x.toNat < 32 := by have := of_decide_eq_true h2; omega
  refine ⟨⟨by omega, by omega, by show ((x.toNat / 16 + 1 : Nat) : Int) ≤ 16; omega⟩, ?_⟩
  rw [show hexS.extract (((x.toNat / 16 : Nat) : Int)).toNat (((x.toNat / 16 + 1 : Nat) : Int)).toNat = ⟨#[hexL (x.toNat / 16)]⟩ from dg _ (by omega)]
  (conv => whnf)
  refine ⟨by show 4 + 1 ≤ _; decide, ?_⟩
  rw [show (⟨#[92, 117, 48, 48]⟩ : ByteArray) ++ ⟨#[hexL (x.toNat / 16)]⟩ = ⟨#[92, 117, 48, 48, hexL (x.toNat / 16)]⟩ from str_app [92, 117, 48, 48] [hexL (x.toNat / 16)]]
  (conv => whnf)
  refine ⟨⟨by omega, by omega⟩, ?_⟩
  rw [hv]
  (conv => whnf)
  refine ⟨by decide, ?_⟩
  (conv => whnf)
  refine ⟨⟨by omega, by omega⟩, ?_⟩
  rw [hv]
  (conv => whnf)
  refine ⟨by decide, ?_⟩
  (conv => whnf)
  rw [w3, w4]
  refine ⟨⟨by omega, by omega, by show ((x.toNat % 16 + 1 : Nat) : Int) ≤ 16; omega⟩, ?_⟩
  rw [show hexS.extract (((x.toNat % 16 : Nat) : Int)).toNat (((x.toNat % 16 + 1 : Nat) : Int)).toNat = ⟨#[hexL (x.toNat % 16)]⟩ from dg _ (by omega)]
  (conv => whnf)
  refine ⟨by show 5 + 1 ≤ _; decide, ?_⟩
  rw [show (⟨#[92, 117, 48, 48, hexL (x.toNat / 16)]⟩ : ByteArray) ++ ⟨#[hexL (x.toNat % 16)]⟩ = ⟨(c0 x).toArray⟩ from (str_app [92, 117, 48, 48, hexL (x.toNat / 16)] [hexL (x.toNat % 16)]).trans (by unfold c0; rw [if_pos hx32]; rfl)]
  (conv => whnf)
  rotate_left
  rw [show (⟨#[x]⟩ : ByteArray) = ⟨(c0 x).toArray⟩ by unfold c0; rw [if_neg (by have := of_decide_eq_false h2; omega)]]
  all_goals refine WS.loop (fun k F H3 G => ∃ j : Nat, j ≤ 7 ∧ k = 7 - j ∧ F = [(0, pv (.string s)), (2, pv (.string ⟨#[]⟩)), (3, pv (.string ⟨#[98, 102, 110, 114, 116, 34, 92]⟩)), (4, pv (.string ⟨#[8, 12, 10, 13, 9, 34, 92]⟩)), (5, pv (.string ⟨([34] ++ ((tL s).take i).flatMap escB).toArray⟩)), (6, pv (.int .i64 i)), (7, pv (.string ⟨(qI x j).toArray⟩)), (8, pv (.int .i64 j))] ∧ H3 = H2 ∧ G = []) 8 ?_ ?_
  any_goals (refine ⟨7, by omega, _, _, [], ⟨0, by omega, rfl, rfl, rfl, rfl⟩, ?_⟩; exact ⟨rfl, trivial, rfl, rfl, rfl, rfl, rfl, rfl, rfl, rfl, trivial⟩)
  all_goals rintro k F H3 G hle3 ⟨j, hj, rfl, rfl, rfl, rfl⟩
  all_goals refine codeL.go Qu.tab ?_
  all_goals (conv => whnf)
  all_goals refine br.of (fun h3 => ?_) (fun h3 => ?_) <;> (conv => whnf)
  iterate 2
   ·have h3 : (j : Int) < 7 := of_decide_eq_true h3
    obtain ⟨m, d, hm, hd, hq⟩ := qI_hit (show j < 7 by omega)
    refine WS.draw Qu.tab Rf.mixed (.take 0 (.take 1 (.take 2 (.take 3 (.take 4 (.take 5 (.take 6 .done))))))) (by kernel_rfl) [] ?_
    (conv => whnf)
    refine ⟨⟨by omega, by show (j : Int) < 7; omega⟩, ?_⟩
    rw [show byteAt ⟨#[8, 12, 10, 13, 9, 34, 92]⟩ (j : Int) = (m.toNat : Int) from (by obtain ⟨m', hm', hv'⟩ := Pa.bAt ⟨#[8, 12, 10, 13, 9, 34, 92]⟩ j (by show j < 7; omega); rw [hv']; have : some m' = some m := hm'.symm.trans hm; injection this with this; rw [this])]
    (conv => whnf)
    refine ⟨⟨by omega, by omega⟩, ?_⟩
    rw [hv]
    (conv => whnf)
    refine br.of (fun h4 => ?_) (fun h4 => ?_) <;> (conv => whnf)
    ·have hmx : m = x := by
      simp only [beq_iff_eq] at h4
      exact UInt8.toNat_inj.1 (by omega)
     rw [wrap64 (x := (j : Int) + 1) (by omega) (by omega)]
     refine ⟨⟨by omega, by omega, by show (j : Int) + 1 ≤ 7; omega⟩, ?_⟩
     rw [show (⟨#[98, 102, 110, 114, 116, 34, 92]⟩ : ByteArray).extract (j : Int).toNat ((j : Int) + 1).toNat = ⟨#[d]⟩ from ext1 _ j d hd]
     (conv => whnf)
     refine ⟨by show 1 + 1 ≤ _; decide, ?_⟩
     rw [show (⟨#[92]⟩ : ByteArray) ++ ⟨#[d]⟩ = ⟨(qI x (j + 1)).toArray⟩ from (str_app [92] [d]).trans (by rw [← hmx, hq]; rfl)]
     (conv => whnf)
     rw [wrap64 (x := (j : Int) + 1) (by omega) (by omega)]
     refine ⟨7 - (j + 1), by omega, _, _, [], ⟨j + 1, by omega, rfl, rfl, rfl, rfl⟩, ?_⟩
     exact ⟨rfl, trivial, rfl, rfl, rfl, rfl, rfl, rfl, rfl, rfl, trivial⟩
    ·have hmx : m ≠ x := fun h => by subst h; simp at h4
     rw [wrap64 (x := (j : Int) + 1) (by omega) (by omega)]
     refine ⟨7 - (j + 1), by omega, _, _, [], ⟨j + 1, by omega, rfl, rfl, rfl, rfl⟩, ?_⟩
     rw [qI_miss hm hmx]
     exact ⟨rfl, trivial, rfl, rfl, rfl, rfl, rfl, rfl, rfl, rfl, trivial⟩
   ·have h3 : ¬ (j : Int) < 7 := of_decide_eq_false h3
    obtain rfl : j = 7 := by omega
    have hf := flat_le ((tL s).take i)
    have hl : ((tL s).take i).length ≤ s.size := by rw [List.length_take]; omega
    rw [qI_end]
    have he := esc_le x
    refine ⟨?_, ?_⟩
    ·show ([34] ++ List.flatMap escB ((tL s).take i)).toArray.size + (escB x).toArray.size ≤ _
     rw [List.size_toArray, List.size_toArray, List.length_append, List.length_singleton]; omega
    rw [str_app]
    (conv => whnf)
    rw [wrap64 (x := (i : Int) + 1) (by omega) (by omega)]
    refine ⟨s.size - (i + 1), by omega, _, _, [], ⟨i + 1, by omega, rfl, rfl, rfl, rfl⟩, ?_⟩
    rw [List.take_add_one, show (tL s)[i]? = some x from hx, List.flatMap_append, ← List.append_assoc, show (some x).toList.flatMap escB = escB x by simp]
    exact ⟨rfl, trivial, rfl, rfl, rfl, rfl, rfl, rfl, trivial⟩
 ·have h1 := of_decide_eq_false h1
  obtain rfl : i = s.size := by omega
  rw [List.take_of_length_le (by omega)]
  have hf := flat_le (tL s)
  refine ⟨?_, ?_⟩
  ·show ([34] ++ List.flatMap escB (tL s)).toArray.size + 1 ≤ _
   rw [List.size_toArray, List.length_append, List.length_singleton]; omega
  (conv => whnf)
  refine ⟨?_, rfl, rfl⟩
  show SE.ret (pv (.string ((⟨([34] ++ List.flatMap escB (tL s)).toArray⟩ : ByteArray) ++ ⟨[34].toArray⟩))) = _
  rw [str_app]; rfl
end Go.Kx.Rf
