/- A record added to a log on a disk that is in order. No condition of its own. -/
import Derived.Test.YtbjiioclhgdeeaaGreatDoorMB14
import Derived.Shelf.SlMaps.Clone
import Derived.Test.YtbjiioclhgdeeaaGreatDoorProg
import Derived.Shelf.Lays
import Derived.Lib.MakeNoZero
namespace Go.Kx.Wa
open Go.Proofs Go.Kx Go.RowKit Go.Kx.Wl Go.Kx.Dk Go.Kx.Cr
set_option maxRecDepth 20000
set_option linter.unusedSimpArgs false
def addB (D : List UInt8) (h g a : Nat) (b : List UInt8) : List UInt8 := ow (ow D (h * (D.length / 2) + a) (recB g a b 0)) (h * (D.length / 2) + (a + 8)) [1]
theorem append_ (d : Dk) (l : Lg) (hd : Fine d) (hl : l.dead = false) (hh : l.half ≤ 1) (hg : l.gen < 4294967296) (hnr : l.nr ≤ 1000000) (A : Option Addr) (n cap : Nat) (b : List UInt8) (h1 : 1 ≤ n) (h2 : n ≤ 65536) (hf : l.fin + (9 + n) ≤ d.bs.length / 2) (H : Hp) (hb : SlAt H A n cap b) :
  CallO Tryz.prog 98 [lP, pv (.slice A n cap)] H (logG d l) fun e H' G' => e = .ret (pv (.int .i64 0)) ∧ H.Le H' ∧ ∃ wr xs, G' = logH (Dk.put d (addB d.bs l.half l.gen l.fin b) wr) { l with fin := l.fin + (9 + n), nr := l.nr + 1, xs := xs } := by
 have he := half_end (D := d.bs) hh
 have hmost := hd.most
 have hbl := hb.len
 have lr : (recB l.gen l.fin b 0).length = 9 + n := by rw [rec_len, hbl]
 have hal := alive_ d l
 rw [hl, hd.up] at hal
 have hw1 := fun A m c H (hm : m = 9 + n) hs => writeF d l hd hl l.half l.fin A m c (recB l.gen l.fin b 0) hh (by omega) (by omega) H hs
 have l1 : (ow d.bs (l.half * (d.bs.length / 2) + l.fin) (recB l.gen l.fin b 0)).length = d.bs.length := ow_len (by omega)
 have hw2 := fun wr A c b2 H hs => writeF (Dk.put d (ow d.bs (l.half * (d.bs.length / 2) + l.fin) (recB l.gen l.fin b 0)) wr) l (hd.put l1 wr) hl l.half (l.fin + 8) A 1 c b2 hh (by show _ ≤ (ow _ _ _).length / 2; rw [l1]; omega) (by decide) H hs
 have el : ∀ wr, (Dk.put d (ow d.bs (l.half * (d.bs.length / 2) + l.fin) (recB l.gen l.fin b 0)) wr).bs.length = d.bs.length := fun wr => l1
 simp only [el] at hw2
 have hrm := room_ d l hd.most (by omega)
 have hrec := fun H hb => record_ l.gen l.fin hg (by omega) A n cap b 0 H hb (by omega)
 have hcl := fun H hb => cloneS b A n cap H hb (by omega)
 obtain ⟨half, gen, fin, dead, nr, xs⟩ := l
 dsimp only at *
 subst hl
 refine CallO.of_body tab Tryz.func98 rfl (nt := Tryz.f98.ntmps) rfl (by kernel_rfl) ?_
 (conv => whnf)
 refine ⟨⟨_, Tryz.func157, rfl, by kernel_rfl⟩, CallS.use (cost_ n h1 h2 H) [] rfl rfl trivial ?_⟩
 rintro e H2 G' hle2 ⟨rfl, rfl, rfl⟩
 (conv => whnf)
 refine ⟨⟨_, Tryz.func158, rfl, by kernel_rfl⟩, CallS.use (hal H2) [0, 1, 2, 3] rfl rfl ⟨rfl, rfl, rfl, rfl, trivial⟩ ?_⟩
 rintro e H3 G' hle3 ⟨rfl, rfl, rfl⟩
 (conv => whnf)
 have e0 : (((9 + n : Nat) : Int) == 0) = false := by simp; omega
 rw [e0]
 (conv => whnf)
 refine ⟨⟨_, Tryz.func159, rfl, by kernel_rfl⟩, CallS.use (hrm H3) [0, 1, 2, 3] rfl rfl ⟨rfl, rfl, rfl, rfl, trivial⟩ ?_⟩
 rintro e H4 G' hle4 ⟨rfl, rfl, rfl⟩
 (conv => whnf)
 refine br.of (fun h => absurd (of_decide_eq_true h) (by omega)) (fun h => ?_)
 (conv => whnf)
 refine WS.draw tab mixed (.take 0 (.take 1 (.take 2 (.take 3 (.take 4 (.take 5 (.take 6 (.take 7 (.take 8 (.take 9 (.take 10 (.take 11 (.take 12 (.take 13 (.take 14 (.take 15 (.take 16 (.take 17 (.alt 18 (.alt 19 (.take 20 (.take 21 (.take 22 (.take 23 (.take 24 (.take 25 (.take 26 (.take 27 (.take 28 (.take 29 (.take 30 (.take 31 (.alt 32 (.alt 33 (.take 34 (.take 35 .done)) .no) .no))))))))))))) .no) .no))))))))))))))))))) (by kernel_rfl) [0, 1] ?_
 (conv => whnf)
 refine And.intro ?_ trivial
 (conv => whnf)
 refine ⟨⟨_, Tryz.func161, rfl, by kernel_rfl⟩, CallS.use (hrec H4 (hb.mono ((hle2.trans hle3).trans hle4))) [] rfl rfl trivial ?_⟩
 rintro e H5 G' hle5 ⟨⟨A5, n5, c5, rfl, h5⟩, rfl⟩
 (conv => whnf)
 refine ⟨⟨trivial, trivial, rfl, rfl, trivial⟩, ?_⟩
 (conv => whnf)
 refine And.intro ?_ trivial
 (conv => whnf)
 refine ⟨⟨_, Tryz.func160, rfl, by kernel_rfl⟩, CallS.use (hw1 A5 n5 c5 H5 (by rw [h5.len, lr]) h5) [0, 1, 2, 3] rfl rfl ⟨rfl, rfl, rfl, rfl, trivial⟩ ?_⟩
 rintro e H6 G' hle6 ⟨rfl, rfl, wr, rfl⟩
 (conv => whnf)
 refine ⟨⟨trivial, trivial, rfl, rfl, trivial⟩, ?_⟩
 (conv => whnf)
 rw [wrap64 (x := (fin : Int) + 8) (by omega) (by omega)]
 refine And.intro ?_ trivial
 (conv => whnf)
 refine ⟨by decide, .inl ?_⟩
 intro g H7 hle7 hrd7
 (conv => whnf)
 refine ⟨⟨trivial, trivial, rfl, rfl, trivial⟩, ?_⟩
 (conv => whnf)
 refine And.intro ?_ trivial
 (conv => whnf)
 have h7 : SlAt H7 (some ⟨g, 0, none⟩) 1 1 [1] := ⟨rfl, Nat.le_refl _, .inr ⟨g, 0, rfl, hrd7⟩⟩
 refine ⟨⟨_, Tryz.func160, rfl, by kernel_rfl⟩, CallS.use (hw2 wr (some ⟨g, 0, none⟩) 1 [1] H7 h7) [0, 1, 2, 3] rfl rfl ⟨rfl, rfl, rfl, rfl, trivial⟩ ?_⟩
 rintro e H8 G' hle8 ⟨rfl, rfl, wr2, rfl⟩
 (conv => whnf)
 refine ⟨⟨trivial, trivial, rfl, rfl, trivial⟩, ?_⟩
 (conv => whnf)
 refine WS.draw tab mixed (.take 0 (.take 1 (.take 2 (.take 3 (.take 5 (.alt 4 (.alt 6 (.alt 7 (.alt 8 (.take 9 (.take 10 (.alt 11 .done .no))) .no) .no) .no) (.alt 6 (.alt 4 (.alt 7 (.alt 8 (.take 9 (.take 10 (.alt 11 .done .no))) .no) .no) (.alt 7 (.alt 4 (.alt 8 (.take 9 (.take 10 (.alt 11 .done .no))) .no) .no) .no)) .no))))))) (by kernel_rfl) [0, 1, 2, 3] ?_
 (conv => whnf)
 have hb8 := hb.mono (((((hle2.trans hle3).trans hle4).trans hle5).trans hle7).trans hle8)
 have ec : IntKind.i64.wrap ((fin : Int) + ((9 + n : Nat) : Int)) = ((fin + (9 + n) : Nat) : Int) := by rw [wrap64 (by omega) (by omega)]; omega
 repeat' (first
  | exact trivial
  | exact rfl
  | exact ⟨_, Tryz.func138, rfl, by kernel_rfl⟩
  | (refine CallS.use (hcl _ hb8) [] rfl rfl trivial ?_; rintro e H9 G' hle9 ⟨⟨A9, n9, c9, rfl, h9⟩, rfl⟩; (conv => whnf))
  | (refine ⟨by decide, .inl ?_⟩; intro g1 H10 hle10 hrd; (conv => whnf))
  | (refine And.intro ?_ ?_ <;> (conv => whnf)))
 all_goals
  refine ⟨[.slice A9 n9 c9], rfl, hrd, fun u hu => by simp at hu; subst hu; rfl, ?_⟩
  (conv => whnf)
  refine ⟨by show (nr + 1) * 25 ≤ 140737488355328; omega, ?_⟩
  (conv => whnf)
  repeat' (first
   | exact trivial
   | exact rfl
   | (rw [ec]; exact ⟨rfl, (((((((hle2.trans hle3).trans hle4).trans hle5).trans hle7).trans hle8).trans hle9).trans hle10), wr2, _, rfl⟩)
   | (refine And.intro ?_ ?_ <;> (conv => whnf)))
end Go.Kx.Wa
namespace Go.Kx.Ka
open Go.Proofs Go.Kx Go.RowKit Go.Kx.Wl Go.Kx.Dk Go.Kx.Cr Go.Kx.Wa Go.Kx.Kv
set_option maxRecDepth 20000
set_option linter.unusedSimpArgs false
def T : Tab := [(5, { k := TK.int IntKind.u8, agg := false, size := 1, bytes := 1, zero := [Z.i IntKind.u8] }), (94, { k := TK.slice 5, agg := false, size := 1, bytes := 24, zero := [Z.sl] }), (96, { k := TK.st [(0, 94, 1), (1, 4, 1), (2, 4, 1), (3, 93, 2), (5, 3, 1)], agg := true, size := 6, bytes := 56, zero := [Z.sl, Z.b, Z.b, Z.i IntKind.i64, Z.i IntKind.i64, Z.i IntKind.i64] }), (93, { k := TK.st [(0, 3, 1), (1, 3, 1)], agg := true, size := 2, bytes := 16, zero := [Z.i IntKind.i64, Z.i IntKind.i64] }), (216, { k := TK.st [(0, 25, 1), (1, 3, 1), (2, 3, 1), (3, 3, 1), (4, 159, 1), (5, 4, 1)], agg := true, size := 6, bytes := 64, zero := [Z.p, Z.i IntKind.i64, Z.i IntKind.i64, Z.i IntKind.i64, Z.sl, Z.b] }), (159, { k := TK.slice 94, agg := false, size := 1, bytes := 24, zero := [Z.sl] }), (4, { k := TK.bool, agg := false, size := 1, bytes := 1, zero := [Z.b] }), (3, { k := TK.int IntKind.i64, agg := false, size := 1, bytes := 8, zero := [Z.i IntKind.i64] }), (279, { k := TK.int IntKind.u32, agg := false, size := 1, bytes := 4, zero := [Z.i IntKind.u32] }), (284, { k := TK.int IntKind.u64, agg := false, size := 1, bytes := 8, zero := [Z.i IntKind.u64] }), (9, { k := TK.string, agg := false, size := 1, bytes := 16, zero := [Z.s] }), (213, { k := TK.st [(0, 5, 1), (1, 9, 1), (2, 94, 1)], agg := true, size := 3, bytes := 48, zero := [Z.i IntKind.u8, Z.s, Z.sl] }), (161, { k := TK.slice 213, agg := false, size := 1, bytes := 24, zero := [Z.sl] }), (221, { k := TK.st [(0, 94, 1), (1, 4, 1)], agg := true, size := 2, bytes := 32, zero := [Z.sl, Z.b] }), (158, { k := TK.st [(0, 152, 1), (1, 156, 1), (2, 3, 1)], agg := true, size := 3, bytes := 24, zero := [Z.p, Z.m, Z.i IntKind.i64] }), (171, { k := TK.st [(0, 87, 1), (1, 156, 1), (2, 161, 1), (3, 3, 1), (4, 4, 1)], agg := true, size := 5, bytes := 56, zero := [Z.p, Z.m, Z.sl, Z.i IntKind.i64, Z.b] }), (156, { k := TK.map 9 94, agg := false, size := 1, bytes := 8, zero := [Z.m] }), (25, { k := TK.ptr 96, agg := false, size := 1, bytes := 8, zero := [Z.p] }), (87, { k := TK.ptr 158, agg := false, size := 1, bytes := 8, zero := [Z.p] }), (30, { k := TK.int IntKind.i64, agg := false, size := 1, bytes := 8, zero := [Z.i IntKind.i64] }), (152, { k := TK.ptr 216, agg := false, size := 1, bytes := 8, zero := [Z.p] }), (103, { k := TK.ptr 171, agg := false, size := 1, bytes := 8, zero := [Z.p] }), (219, { k := TK.ptr 221, agg := false, size := 1, bytes := 8, zero := [Z.p] })]
set_option maxRecDepth 100000 in
theorem tab : TabOk Tryz.prog T := tabOk_mk (ts := [5, 94, 96, 93, 216, 159, 4, 3, 279, 284, 9, 213, 161, 221, 158, 171, 156, 25, 87, 30, 152, 103, 219]) (by kernel_rfl)
theorem mixed : Tryz.prog.follows .mixedOrders = true := by kernel_rfl
def rdB (A : Option Addr) (n cap : Nat) : SB := .box 221 [.val (.slice A n cap), .val (.bool false)]
abbrev rP : SV := .si (.ce (.ptr 0 0))
theorem take_ (A : Option Addr) (n cap k : Nat) (hk : k ≤ n) (hc : n ≤ cap) (H : Hp) : CallO Tryz.prog 211 [rP, iV k] H [rdB A n cap] fun e H' G' => e = .ret (pv (.slice (subA A cap 0 1) k cap)) ∧ H' = H ∧ G' = [rdB (subA A cap k 1) (n - k) (cap - k)] := by
 refine CallO.of_body tab Tryz.func211 rfl (nt := Tryz.f211.ntmps) rfl (by kernel_rfl) ?_
 (conv => whnf)
 refine br.of (fun h => absurd (of_decide_eq_true h) (by omega)) (fun h => ?_)
 (conv => whnf)
 refine ⟨⟨by decide, by omega, by omega⟩, ?_⟩
 (conv => whnf)
 refine ⟨⟨by omega, by omega⟩, ?_⟩
 (conv => whnf)
 exact ⟨rfl, rfl, rfl⟩
theorem takeS (A : Option Addr) (n cap k : Nat) (x y : List UInt8) (H : Hp) (hb : SlAt H A n cap (x ++ y)) (hk : k = x.length) : CallO Tryz.prog 211 [rP, iV k] H [rdB A n cap] fun e H' G' =>
  (∃ A1 c1, e = .ret (pv (.slice A1 k c1)) ∧ SlAt H' A1 k c1 x) ∧ H' = H ∧ ∃ A2 n2 c2, G' = [rdB A2 n2 c2] ∧ SlAt H' A2 n2 c2 y := by
 have hl := hb.len
 rw [List.length_append] at hl
 refine CallO.mono (take_ A n cap k (by omega) hb.room H) ?_
 rintro e H' G' hle ⟨rfl, rfl, rfl⟩
 have h1 := hb.take (u := k) (by omega)
 have h2 := hb.drop (l := k) (by omega)
 rw [hk, List.take_left] at h1
 rw [hk, List.drop_left] at h2
 rw [hk]
 exact ⟨⟨_, _, rfl, h1⟩, rfl, _, _, _, rfl, h2⟩
def StpAt (H : Hp) (p : Stp) (v : Value) : Prop := ∃ A n c, v = .slice A n c ∧ SlAt H A n c p.val
theorem StpAt.mono {H H' : Hp} {p : Stp} {v : Value} (h : StpAt H p v) (hle : H.Le H') : StpAt H' p v := let ⟨A, n, c, h1, h2⟩ := h; ⟨A, n, c, h1, h2.mono hle⟩
def stC (p : Stp) (v : Value) : List SC := [.val (.int .u8 (p.kind.toNat : Int)), .val (.string p.key), .val v]
theorem str_kb (s : ByteArray) : strOf (kb s) = s := by unfold strOf kb; simp
theorem i_shl {a : Nat} (ha : a < 256) : IntKind.i64.wrap ((a : Int) * 2 ^ min 8 IntKind.i64.bits) = ((a * 256 : Nat) : Int) := by
 rw [show (2 : Int) ^ min 8 IntKind.i64.bits = 256 by decide, wrap64 (by omega) (by omega)]
 omega
theorem i_or {a c : Nat} (ha : a < 256) (hc : c < 256) : IntKind.i64.wrap ((BitVec.ofInt IntKind.i64.bits ((a * 256 : Nat) : Int) ||| BitVec.ofInt IntKind.i64.bits (c : Int)).toNat : Int) = ((a * 256 + c : Nat) : Int) := by
 have e0 : ∀ x : Nat, BitVec.ofInt IntKind.i64.bits (x : Int) = BitVec.ofNat 64 x := fun x => by show BitVec.ofInt 64 (x : Int) = _; simp
 rw [e0, e0]
 show IntKind.i64.wrap ((BitVec.ofNat 64 (a * 256) ||| BitVec.ofNat 64 c : BitVec 64).toNat : Int) = _
 rw [BitVec.toNat_or, BitVec.toNat_ofNat, BitVec.toNat_ofNat, Nat.mod_eq_of_lt (by omega), Nat.mod_eq_of_lt (by omega)]
 have e : a * 256 ||| c = a * 256 + c := by
  have := Nat.shiftLeft_add_eq_or_of_lt (i := 8) (b := c) (by omega) a
  rw [Nat.shiftLeft_eq] at this
  exact this.symm
 rw [e, wrap64 (by omega) (by omega)]
theorem step_ (p : Stp) (hp : RightSt p) (rest : List UInt8) (A : Option Addr) (n cap : Nat) (H : Hp) (hb : SlAt H A n cap (stB p ++ rest)) :
  CallO Tryz.prog 147 [rP] H [rdB A n cap] fun e H' G' => (∃ v, e = .ret (.si (.ag (stC p v))) ∧ StpAt H' p v) ∧ H.Le H' ∧ ∃ A2 n2 c2, G' = [rdB A2 n2 c2] ∧ SlAt H' A2 n2 c2 rest := by
 obtain ⟨k, key, v⟩ := p
 obtain ⟨p1, p2, p3⟩ := hp
 dsimp only at p1 p2 p3
 have hks : (UInt8.ofNat key.size).toNat = key.size := by rw [UInt8.toNat_ofNat']; omega
 have hne : strEq key ⟨#[]⟩ = false := by
  cases h : strEq key ⟨#[]⟩
  ·rfl
  ·rw [strEq_iff.1 h] at p2; exact absurd p2.1 (by decide)
 refine CallO.of_body tab Tryz.func147 rfl (nt := Tryz.f147.ntmps) rfl (by kernel_rfl) ?_
 (conv => whnf)
 have t1 := takeS A n cap 1 [k] (UInt8.ofNat key.size :: (kb key ++ ((if k = 1 then UInt8.ofNat (v.length / 256) :: UInt8.ofNat v.length :: v else []) ++ rest))) H (by
  have e : stB ⟨k, key, v⟩ ++ rest = [k] ++ (UInt8.ofNat key.size :: (kb key ++ ((if k = 1 then UInt8.ofNat (v.length / 256) :: UInt8.ofNat v.length :: v else []) ++ rest))) := by
   unfold stB
   simp
  rw [← e]; exact hb) rfl
 refine ⟨⟨_, Tryz.func211, rfl, by kernel_rfl⟩, CallS.use t1 [0] rfl rfl ⟨rfl, trivial⟩ ?_⟩
 rintro e H2 G' hle2 ⟨⟨A1, c1, rfl, h1⟩, rfl, A2, n2, c2, rfl, h2⟩
 (conv => whnf)
 refine ⟨⟨by decide, by decide⟩, h1.addr (by decide), ?_⟩
 (conv => whnf)
 refine ⟨_, h1.get (i := 0) (by decide) rfl, ?_⟩
 (conv => whnf)
 have t2 := takeS A2 n2 c2 1 [UInt8.ofNat key.size] (kb key ++ ((if k = 1 then UInt8.ofNat (v.length / 256) :: UInt8.ofNat v.length :: v else []) ++ rest)) H2 h2 rfl
 refine ⟨⟨_, Tryz.func211, rfl, by kernel_rfl⟩, CallS.use t2 [0] rfl rfl ⟨rfl, trivial⟩ ?_⟩
 rintro e H3 G' hle3 ⟨⟨A3, c3, rfl, h3⟩, rfl, A4, n4, c4, rfl, h4⟩
 (conv => whnf)
 refine ⟨⟨by decide, by decide⟩, h3.addr (by decide), ?_⟩
 (conv => whnf)
 refine ⟨_, h3.get (i := 0) (by decide) rfl, ?_⟩
 (conv => whnf)
 have ek : IntKind.i64.wrap ((byteN [UInt8.ofNat key.size] 0 : Nat) : Int) = ((key.size : Nat) : Int) := by
  have : byteN [UInt8.ofNat key.size] 0 = key.size := hks
  rw [this, wrap64 (by omega) (by omega)]
 rw [ek]
 have t3 := takeS A4 n4 c4 key.size (kb key) ((if k = 1 then UInt8.ofNat (v.length / 256) :: UInt8.ofNat v.length :: v else []) ++ rest) H3 h4 (kb_len key).symm
 refine ⟨⟨_, Tryz.func211, rfl, by kernel_rfl⟩, CallS.use t3 [0] rfl rfl ⟨rfl, trivial⟩ ?_⟩
 rintro e H4 G' hle4 ⟨⟨A5, c5, rfl, h5⟩, rfl, A6, n6, c6, rfl, h6⟩
 obtain ⟨b5, o5, rfl, hr5⟩ := h5.at_ (by omega)
 (conv => whnf)
 refine ⟨key, rfl, .inr (by rw [← str_kb key, ← cells_str]; exact hr5), ?_⟩
 (conv => whnf)
 rcases p1 with rfl | ⟨rfl, rfl⟩
 ·rw [if_pos rfl] at h6
  (conv => whnf)
  have t4 := takeS A6 n6 c6 2 [UInt8.ofNat (v.length / 256), UInt8.ofNat v.length] (v ++ rest) H4 h6 rfl
  refine ⟨⟨_, Tryz.func211, rfl, by kernel_rfl⟩, CallS.use t4 [0] rfl rfl ⟨rfl, trivial⟩ ?_⟩
  rintro e H5 G' hle5 ⟨⟨A7, c7, rfl, h7⟩, rfl, A8, n8, c8, rfl, h8⟩
  (conv => whnf)
  refine WS.draw tab mixed (.take 0 (.take 1 (.take 2 (.take 3 (.take 4 (.take 5 (.take 6 (.take 7 (.take 8 (.take 9 (.take 10 (.alt 11 (.alt 12 (.take 13 (.alt 14 .done .no)) .no) .no)))))))))))) (by kernel_rfl) [0, 1, 2] ?_
  (conv => whnf)
  refine ⟨⟨by decide, by decide⟩, h7.addr (by decide), ?_⟩
  (conv => whnf)
  refine ⟨_, h7.get (i := 0) (by decide) rfl, ?_⟩
  (conv => whnf)
  refine ⟨by decide, ?_⟩
  (conv => whnf)
  refine ⟨⟨by decide, by decide⟩, h7.addr (by decide), ?_⟩
  (conv => whnf)
  refine ⟨_, h7.get (i := 1) (by decide) rfl, ?_⟩
  (conv => whnf)
  have hv0 : v.length / 256 < 256 := by omega
  have e6 : IntKind.i64.wrap ((byteN [UInt8.ofNat (v.length / 256), UInt8.ofNat v.length] 0 : Nat) : Int) = ((v.length / 256 : Nat) : Int) := by
   have : byteN [UInt8.ofNat (v.length / 256), UInt8.ofNat v.length] 0 = v.length / 256 := by show (UInt8.ofNat (v.length / 256)).toNat = _; rw [UInt8.toNat_ofNat']; omega
   rw [this, wrap64 (by omega) (by omega)]
  have e7 : IntKind.i64.wrap ((byteN [UInt8.ofNat (v.length / 256), UInt8.ofNat v.length] 1 : Nat) : Int) = ((v.length % 256 : Nat) : Int) := by
   have : byteN [UInt8.ofNat (v.length / 256), UInt8.ofNat v.length] 1 = v.length % 256 := by show (UInt8.ofNat v.length).toNat = _; rw [UInt8.toNat_ofNat']
   rw [this, wrap64 (by omega) (by omega)]
  have e8 : v.length / 256 * 256 + v.length % 256 = v.length := by omega
  rw [e6, e7, show Int.toNat 8 = 8 from rfl, i_shl hv0, i_or hv0 (by omega), e8]
  have t5 := takeS A8 n8 c8 v.length v rest H5 h8 rfl
  refine And.intro ?_ trivial
  (conv => whnf)
  refine ⟨⟨_, Tryz.func211, rfl, by kernel_rfl⟩, CallS.use t5 [0] rfl rfl ⟨rfl, trivial⟩ ?_⟩
  rintro e H6 G' hle6 ⟨⟨A9, c9, rfl, h9⟩, rfl, A10, n10, c10, rfl, h10⟩
  (conv => whnf)
  refine ⟨⟨trivial, trivial, trivial, trivial⟩, ?_⟩
  (conv => whnf)
  refine And.intro ?_ trivial
  (conv => whnf)
  refine ⟨⟨_, Tryz.func138, rfl, by kernel_rfl⟩, CallS.use (cloneS v A9 _ c9 H6 h9 (by omega)) [] rfl rfl trivial ?_⟩
  rintro e H7 G' hle7 ⟨⟨A11, n11, c11, rfl, h11⟩, rfl⟩
  (conv => whnf)
  refine ⟨⟨trivial, trivial, trivial, trivial⟩, ?_⟩
  (conv => whnf)
  repeat' (first
   | exact trivial
   | exact rfl
   | (refine And.intro ?_ ?_ <;> (conv => whnf)))
  rw [hne]
  (conv => whnf)
  refine br.of (fun h => absurd (of_decide_eq_true h) (by omega)) (fun h => ?_)
  (conv => whnf)
  have hl11 := h11.len
  have e9 : decide ((n11 : Int) > 4096) = false := decide_eq_false (by omega)
  rw [e9]
  exact ⟨⟨_, rfl, A11, n11, c11, rfl, h11⟩, hle7, A10, n10, c10, rfl, h10.mono hle7⟩
 ·rw [if_neg (by decide)] at h6
  (conv => whnf)
  rw [hne]
  (conv => whnf)
  refine br.of (fun h => absurd (of_decide_eq_true h) (by omega)) (fun h => ?_)
  (conv => whnf)
  exact ⟨⟨_, rfl, none, 0, 0, rfl, .nul⟩, .refl _, A6, n6, c6, rfl, h6⟩
end Go.Kx.Ka
namespace Go.Kx.Ka
open Go.Proofs Go.Kx Go.RowKit Go.Kx.Wl Go.Kx.Dk Go.Kx.Cr Go.Kx.Wa Go.Kx.Kv
set_option maxRecDepth 20000
set_option linter.unusedSimpArgs false
def stV (q : Stp × Value) : List Value := [.int .u8 (q.1.kind.toNat : Int), .string q.1.key, q.2]
def stsC (ps : List (Stp × Value)) : List Value := ps.flatMap stV
def StsOk (H : Hp) (ps : List (Stp × Value)) : Prop := ∀ q ∈ ps, StpAt H q.1 q.2
theorem StsOk.mono {H H' : Hp} {ps : List (Stp × Value)} (h : StsOk H ps) (hle : H.Le H') : StsOk H' ps := fun q hq => (h q hq).mono hle
theorem stsC_len (ps : List (Stp × Value)) : (stsC ps).length = ps.length * 3 := by
 unfold stsC
 induction ps with
 | nil => rfl
 | cons q r ih => rw [List.flatMap_cons, List.length_append, ih, List.length_cons]; show 3 + _ = _; omega
theorem stsC_get : ∀ {ps : List (Stp × Value)} {i : Nat} {q : Stp × Value}, ps[i]? = some q → ∀ (j : Nat) (v : Value), (stV q)[j]? = some v → (stsC ps)[i * 3 + j]? = some v
 | y :: ps, 0, q, h, j, v, hv => by
  simp at h; subst h
  have hj : j < 3 := (List.getElem?_eq_some_iff.1 hv).1
  show (stV y ++ stsC ps)[0 * 3 + j]? = _
  rw [List.getElem?_append_left (by show 0 * 3 + j < 3; omega), Nat.zero_mul, Nat.zero_add]; exact hv
 | y :: ps, i + 1, q, h, j, v, hv => by
  show (stV y ++ stsC ps)[(i + 1) * 3 + j]? = _
  rw [List.getElem?_append_right (by show 3 ≤ _; omega)]
  have : (i + 1) * 3 + j - (stV y).length = i * 3 + j := by show (i + 1) * 3 + j - 3 = _; omega
  rw [this]
  exact stsC_get (ps := ps) (by simpa using h) j v hv
theorem stsC_snoc (ps : List (Stp × Value)) (q : Stp × Value) : stsC (ps ++ [q]) = stsC ps ++ stV q := by unfold stsC; simp
def RetSts (l : List Stp) (e : SE) (H' : Hp) : Prop := ∃ A n cap ps, e = .ret (.tu [.ce (.val (.slice A n cap)), .ce (.val (.bool true))]) ∧ ps.map (·.1) = l ∧ StsOk H' ps ∧ n = ps.length ∧ (n = 0 ∨ ∃ b o, A = some ⟨b, o, none⟩ ∧ RdN H' (some ⟨b, o, none⟩) 0 (stsC ps))
theorem recS_drop {l : List Stp} {i : Nat} {p : Stp} (hi : l[i]? = some p) : recS (l.drop i) = stB p ++ recS (l.drop (i + 1)) := by
 have h := List.getElem?_eq_some_iff.1 hi
 rw [List.drop_eq_getElem_cons h.1, h.2]
 unfold recS
 rw [List.flatMap_cons]
theorem steps_ (l : List Stp) (hr : ∀ p ∈ l, RightSt p) (hl : l.length ≤ 1000000) (A : Option Addr) (n cap : Nat) (H : Hp) (hb : SlAt H A n cap (recS l)) :
  CallO Tryz.prog 89 [pv (.slice A n cap)] H [] fun e H' G' => RetSts l e H' ∧ H.Le H' ∧ G' = [] := by
 have h : CallO Tryz.prog 89 [pv (.slice A n cap)] H [] fun e H' G' => e = .ret (.tu [.ce (.self 0), .ce (.val (.bool true))]) ∧ H.Le H' ∧ ∃ ps, ps.map (·.1) = l ∧ StsOk H' ps ∧ G' = [.row 213 3 ps.length (stsC ps)] := by
  have h : CallO Tryz.prog 89 [pv (.slice A n cap)] H [] fun e H' G' => e = .ret (.tu [.ce (.self 1), .ce (.val (.bool true))]) ∧ H.Le H' ∧ ∃ ps x y, ps.map (·.1) = l ∧ StsOk H' ps ∧ G' = x :: .row 213 3 ps.length (stsC ps) :: y := by
   refine CallO.of_body tab Tryz.func89 rfl (nt := Tryz.f89.ntmps) rfl (by kernel_rfl) ?_
   (conv => whnf)
   refine WS.nilRow 5 213 3 rfl ?_
   (conv => whnf)
   refine WS.loop (fun k' F H4 G => ∃ (i : Nat) (ps : List (Stp × Value)) (A2 : Option Addr) (n2 c2 : Nat), i ≤ l.length ∧ ps.map (·.1) = l.take i ∧ StsOk H4 ps ∧ SlAt H4 A2 n2 c2 (recS (l.drop i)) ∧ k' = l.length - i ∧ F = [(4, rP), (5, .si (.ce (.self 1)))] ∧ H.Le H4 ∧ G = [rdB A2 n2 c2, .row 213 3 ps.length (stsC ps)]) (l.length + 1) ?_ ?_
   ·refine ⟨l.length, by omega, _, _, [0, 1], ⟨0, [], A, n, cap, by omega, rfl, fun q hq => by simp at hq, hb, rfl, rfl, .refl _, rfl⟩, ?_⟩
    exact ⟨rfl, ⟨rfl, rfl, trivial⟩, rfl, rfl, trivial⟩
   rintro k' F H4 G hle4 ⟨i, ps, A2, n2, c2, hi, hps, hok, hs2, rfl, rfl, hle, rfl⟩
   refine codeL.go tab ?_
   (conv => whnf)
   have hn2 := hs2.len
   refine br.of (fun h1 => ?_) (fun h1 => ?_) <;> (conv => whnf)
   ·have h1 := of_decide_eq_true h1
    have hil : i < l.length := by
     rcases Nat.lt_or_ge i l.length with h | h
     ·exact h
     ·rw [List.drop_of_length_le h] at hn2
      exact absurd hn2 (by show ¬ n2 = 0; omega)
    have hget : l[i]? = some l[i] := List.getElem?_eq_getElem hil
    have hrp := hr l[i] (List.getElem_mem hil)
    generalize l[i] = p at hget hrp
    rw [recS_drop hget] at hs2
    refine ⟨⟨_, Tryz.func147, rfl, by kernel_rfl⟩, CallS.use (step_ p hrp _ A2 n2 c2 H4 hs2) [0] rfl rfl ⟨rfl, trivial⟩ ?_⟩
    rintro e H5 G' hle5 ⟨⟨v, rfl, hv⟩, hle5', A3, n3, c3, rfl, h3⟩
    obtain ⟨Av, nv, cv, rfl, hsv⟩ := hv
    (conv => whnf)
    refine ⟨by decide, .inl ?_⟩
    intro g H6 hle6 hrd
    (conv => whnf)
    have hpl : ps.length = i := by have := congrArg List.length hps; simp at this; omega
    refine ⟨stV (p, Value.slice Av nv cv), rfl, hrd, fun u hu => by simp [stV] at hu; rcases hu with rfl | rfl | rfl <;> rfl, ?_⟩
    (conv => whnf)
    refine ⟨by show (ps.length + 1) * 49 ≤ 140737488355328; omega, ?_⟩
    (conv => whnf)
    refine ⟨l.length - (i + 1), by omega, _, [rdB A3 n3 c3, .row 213 3 (ps ++ [(p, Value.slice Av nv cv)]).length (stsC (ps ++ [(p, Value.slice Av nv cv)]))], [0, 2], ⟨i + 1, ps ++ [(p, Value.slice Av nv cv)], A3, n3, c3, by omega, ?_, ?_, h3.mono hle6, rfl, rfl, hle.trans (hle5.trans hle6), rfl⟩, ?_⟩
    ·rw [List.map_append, hps, List.take_add_one, hget]; rfl
    ·intro q hq
     rcases List.mem_append.1 hq with hq | hq
     ·exact (hok q hq).mono (hle5.trans hle6)
     ·simp at hq; subst hq; exact ⟨Av, nv, cv, rfl, hsv.mono hle6⟩
    ·refine ⟨rfl, ⟨rfl, ?_, trivial⟩, rfl, rfl, trivial⟩
     rw [stsC_snoc, List.length_append]
     exact rfl
   ·have h1 := of_decide_eq_false h1
    have hil : i = l.length := by
     rcases Nat.lt_or_ge i l.length with h | h
     ·have hget : l[i]? = some l[i] := List.getElem?_eq_getElem h
      rw [recS_drop hget, List.length_append] at hn2
      have := List.length_pos_iff.2 (stB_ne l[i])
      omega
     ·omega
    subst hil
    rw [List.take_length] at hps
    refine WS.draw tab mixed (.take 0 (.take 1 (.take 2 (.take 3 (.take 4 (.take 5 (.take 6 (.take 7 .done)))))))) (by kernel_rfl) [] ?_
    (conv => whnf)
    repeat' (first
     | exact trivial
     | exact rfl
     | exact ⟨rfl, hle, ps, _, _, hps, hok, rfl⟩
     | (refine And.intro ?_ ?_ <;> (conv => whnf)))
  refine CallO.sub h ?_
  rintro e H' G' hle ⟨rfl, hle', ps, x, y, h1, h2, rfl⟩
  exact ⟨.tu [.ce (.self 0), .ce (.val (.bool true))], [.row 213 3 ps.length (stsC ps)], [1], rfl, ⟨rfl, trivial⟩, rfl, rfl, hle', ps, h1, h2, rfl⟩
 refine CallO.sub (CallO.frz (K := fun e H' G' => RetSts l e H' ∧ H.Le H' ∧ G' = [.dead]) h ?_) ?_
 ·rintro e H' G' hle ⟨rfl, hle', ps, h1, h2, rfl⟩
  refine ⟨0, _, 3, _, stsC ps, rfl, fun h0 => by rw [List.eq_nil_of_length_eq_zero h0]; rfl, fun x H2 hle2 hfr => ?_⟩
  refine ⟨?_, hle'.trans hle2, rfl⟩
  rcases hfr with ⟨rfl, h3, h4⟩ | ⟨g, o, cap, rfl, h3, h4⟩
  ·exact ⟨none, 0, 0, ps, rfl, h1, h2.mono hle2, h3.symm, .inl rfl⟩
  ·exact ⟨_, _, cap, ps, rfl, h1, h2.mono hle2, rfl, .inr ⟨g, o, rfl, h4⟩⟩
 ·rintro e H' G' hle ⟨⟨A, n, cap, ps, rfl, h1⟩, hle', rfl⟩
  exact ⟨_, [], [], rfl, trivial, rfl, ⟨A, n, cap, ps, rfl, h1⟩, hle', rfl⟩
end Go.Kx.Ka
namespace Go.Kx.Ka
open Go.Proofs Go.Kx Go.RowKit Go.Kx.Wl Go.Kx.Dk Go.Kx.Cr Go.Kx.Wa Go.Kx.Kv
set_option maxRecDepth 20000
set_option linter.unusedSimpArgs false
abbrev TN := Tbl × Nat
noncomputable def doN (s : TN) (p : Stp) : TN := (doS s.1 p, if p.kind = 1 then (if s.1 p.key = none then s.2 + 1 else s.2) else (if s.1 p.key = none then s.2 else s.2 - 1))
noncomputable def allN (s : TN) (l : List Stp) : TN := l.foldl doN s
theorem allN_tbl (s : TN) (l : List Stp) : (allN s l).1 = allS s.1 l := by
 unfold allN allS
 induction l generalizing s with
 | nil => rfl
 | cons p r ih => rw [List.foldl_cons, List.foldl_cons, ih]; rfl
def KeyIs (H : Hp) (f : Value → Option Value) (k : ByteArray) : Option (List UInt8) → Prop
 | none => f (.string k) = none
 | some v => v.length ≤ 4096 ∧ ∃ A m c, f (.string k) = some (.slice A m c) ∧ SlAt H A m c v
structure TblM (H : Hp) (f : Value → Option Value) (n : Nat) (s : TN) : Prop where
 num : n = s.2
 key : ∀ k, KeyIs H f k (s.1 k)
theorem KeyIs.mono {H H' : Hp} {f : Value → Option Value} {k : ByteArray} {x : Option (List UInt8)} (h : KeyIs H f k x) (hle : H.Le H') : KeyIs H' f k x := by
 cases x with
 | none => exact h
 | some v => obtain ⟨h1, A, m, c, h2, h3⟩ := h; exact ⟨h1, A, m, c, h2, h3.mono hle⟩
theorem TblM.mono {H H' : Hp} {f : Value → Option Value} {n : Nat} {s : TN} (h : TblM H f n s) (hle : H.Le H') : TblM H' f n s := ⟨h.num, fun k => (h.key k).mono hle⟩
theorem tbl_nil (H : Hp) : TblM H (fun _ => none) 0 (fun _ => none, 0) := ⟨rfl, fun _ => rfl⟩
theorem TblM.none_iff {H : Hp} {f : Value → Option Value} {n : Nat} {s : TN} (h : TblM H f n s) (k : ByteArray) : f (.string k) = none ↔ s.1 k = none := by
 have := h.key k
 cases hk : s.1 k with
 | none => rw [hk] at this; exact ⟨fun _ => rfl, fun _ => this⟩
 | some v =>
  rw [hk] at this
  obtain ⟨_, A, m, c, h2, _⟩ := this
  rw [h2]
  exact ⟨fun h => (nomatch h), fun h => (nomatch h)⟩
theorem TblM.put {H : Hp} {f : Value → Option Value} {n : Nat} {s : TN} (h : TblM H f n s) {p : Stp} (hk : p.kind = 1) (hv : p.val.length ≤ 4096) {v : Value} (hs : StpAt H p v) : TblM H (updM f (.string p.key) v) (if f (.string p.key) = none then n + 1 else n) (doN s p) := by
 refine ⟨?_, fun k => ?_⟩
 ·show _ = if p.kind = 1 then _ else _
  rw [if_pos hk, h.num]
  by_cases hn : f (.string p.key) = none
  ·rw [if_pos hn, if_pos ((h.none_iff _).1 hn)]
  ·rw [if_neg hn, if_neg (fun h2 => hn ((h.none_iff _).2 h2))]
 ·show KeyIs H _ k (doS s.1 p k)
  unfold doS
  by_cases he : k = p.key
  ·subst he
   rw [if_pos rfl, if_pos hk]
   obtain ⟨A, m, c, rfl, h2⟩ := hs
   exact ⟨hv, A, m, c, updM_self .., h2⟩
  ·rw [if_neg he]
   have := h.key k
   have hu : updM f (.string p.key) v (.string k) = f (.string k) := updM_ne _ (fun e => he (by injection e))
   cases hx : s.1 k with
   | none => rw [hx] at this; exact hu.trans this
   | some x =>
    rw [hx] at this
    obtain ⟨h1, A, m, c, h2, h3⟩ := this
    exact ⟨h1, A, m, c, hu.trans h2, h3⟩
theorem TblM.drop {H : Hp} {f : Value → Option Value} {n : Nat} {s : TN} (h : TblM H f n s) {p : Stp} (hk : p.kind ≠ 1) : TblM H (delM f (.string p.key)) (if f (.string p.key) = none then n else n - 1) (doN s p) := by
 refine ⟨?_, fun k => ?_⟩
 ·show _ = if p.kind = 1 then _ else _
  rw [if_neg hk, h.num]
  by_cases hn : f (.string p.key) = none
  ·rw [if_pos hn, if_pos ((h.none_iff _).1 hn)]
  ·rw [if_neg hn, if_neg (fun h2 => hn ((h.none_iff _).2 h2))]
 ·show KeyIs H _ k (doS s.1 p k)
  unfold doS
  by_cases he : k = p.key
  ·subst he
   rw [if_pos rfl, if_neg hk]
   exact delM_self ..
  ·rw [if_neg he]
   have := h.key k
   have hu : delM f (.string p.key) (.string k) = f (.string k) := delM_ne _ (fun e => he (by injection e))
   cases hx : s.1 k with
   | none => rw [hx] at this; exact hu.trans this
   | some x =>
    rw [hx] at this
    obtain ⟨h1, A, m, c, h2, h3⟩ := this
    exact ⟨h1, A, m, c, hu.trans h2, h3⟩
theorem TblM.same {H : Hp} {f : Value → Option Value} {n : Nat} {s : TN} (h : TblM H f n s) {p : Stp} (hk : p.kind ≠ 1) (hf : f (.string p.key) = none) : TblM H f n (doN s p) := by
 have := h.drop hk
 rw [if_pos hf] at this
 refine ⟨this.num, fun k => ?_⟩
 have h2 := this.key k
 have e : delM f (.string p.key) = f := by
  funext x
  unfold delM
  split
  ·rename_i hx; rw [hx, hf]
  ·rfl
 rw [e] at h2
 exact h2
abbrev mP : SV := .si (.ce (.self 0))
theorem do_ (p : Stp) (hp : RightSt p) (v : Value) (n : Nat) (f : Value → Option Value) (s : TN) (H : Hp) (hv : StpAt H p v) (ht : TblM H f n s) :
  CallO Tryz.prog 148 [mP, .si (.ag (stC p v))] H [.map .string n f] fun e H' G' => e = .ret (.tu []) ∧ H' = H ∧ ∃ n' f', TblM H' f' n' (doN s p) ∧ G' = [.map .string n' f'] := by
 obtain ⟨k, key, val⟩ := p
 obtain ⟨p1, p2, p3⟩ := hp
 dsimp only at p1 p2 p3
 obtain ⟨A, m, c, rfl, hs⟩ := hv
 have hput := fun h => ht.put (p := ⟨k, key, val⟩) h p3 (v := .slice A m c) ⟨A, m, c, rfl, hs⟩
 have hdrop := fun h => ht.drop (p := ⟨k, key, val⟩) h
 refine CallO.of_body tab Tryz.func148 rfl (nt := Tryz.f148.ntmps) rfl (by kernel_rfl) ?_
 (conv => whnf)
 rcases p1 with rfl | ⟨rfl, rfl⟩
 ·(conv => whnf)
  refine ⟨fun h => ?_, fun h => ?_⟩ <;> (conv => whnf)
  ·exact ⟨rfl, rfl, _, _, (by have := hput rfl; rw [if_pos h] at this; exact this), rfl⟩
  ·exact ⟨rfl, rfl, _, _, (by have := hput rfl; rw [if_neg h] at this; exact this), rfl⟩
 ·(conv => whnf)
  refine ⟨fun h => ?_, fun h => ?_⟩ <;> (conv => whnf)
  ·exact ⟨rfl, rfl, _, _, (by have := hdrop (by show (2 : UInt8) ≠ 1; decide); rw [if_pos h] at this; exact this), rfl⟩
  ·exact ⟨rfl, rfl, _, _, (by have := hdrop (by show (2 : UInt8) ≠ 1; decide); rw [if_neg h] at this; exact this), rfl⟩
theorem allN_take {s : TN} {l : List Stp} {i : Nat} {p : Stp} (hi : l[i]? = some p) : doN (allN s (l.take i)) p = allN s (l.take (i + 1)) := by
 unfold allN
 rw [List.take_add_one, hi, List.foldl_append]
 rfl
theorem all_ (ps : List (Stp × Value)) (hr : ∀ q ∈ ps, RightSt q.1) (A : Option Addr) (m cap : Nat) (hm : m = ps.length) (hA : m = 0 ∨ ∃ b o, A = some ⟨b, o, none⟩) (n : Nat) (f : Value → Option Value) (s : TN) (H : Hp) (hrd : ∀ b o, A = some ⟨b, o, none⟩ → RdN H (some ⟨b, o, none⟩) 0 (stsC ps)) (hok : StsOk H ps) (ht : TblM H f n s) (hmax : m ≤ 1000000) :
  CallO Tryz.prog 90 [mP, pv (.slice A m cap)] H [.map .string n f] fun e H' G' => e = .ret (.tu []) ∧ H' = H ∧ ∃ n' f', TblM H' f' n' (allN s (ps.map (·.1))) ∧ G' = [.map .string n' f'] := by
 refine CallO.of_body tab Tryz.func90 rfl (nt := Tryz.f90.ntmps) rfl (by kernel_rfl) ?_
 (conv => whnf)
 refine WS.loop (fun k' F H4 G => ∃ (i : Nat) (n2 : Nat) (f2 : Value → Option Value), i ≤ m ∧ TblM H4 f2 n2 (allN s ((ps.map (·.1)).take i)) ∧ k' = m - i ∧ F = [(0, mP), (6, pv (.slice A m cap)), (7, iV m), (8, iV i)] ∧ H4 = H ∧ G = [.map .string n2 f2]) (m + 1) ?_ ?_
 ·refine ⟨m, by omega, _, _, [0], ⟨0, n, f, by omega, ht, rfl, rfl, rfl, rfl⟩, ?_⟩
  exact ⟨rfl, ⟨rfl, trivial⟩, rfl, rfl, rfl, rfl, trivial⟩
 rintro k' F H4 G hle4 ⟨i, n2, f2, hi, ht2, rfl, rfl, rfl, rfl⟩
 refine codeL.go tab ?_
 (conv => whnf)
 refine br.of (fun h1 => ?_) (fun h1 => ?_) <;> (conv => whnf)
 ·have h1 := of_decide_eq_true h1
  have hil : i < ps.length := by omega
  have hget : ps[i]? = some ps[i] := List.getElem?_eq_getElem hil
  have hrp := hr ps[i] (List.getElem_mem hil)
  have hop := hok ps[i] (List.getElem_mem hil)
  generalize ps[i] = q at hget hrp hop
  obtain ⟨p, v⟩ := q
  obtain ⟨Av, nv, cv, rfl, hsv⟩ := hop
  rcases hA with h0 | ⟨b, o, rfl⟩
  ·omega
  refine ⟨⟨by omega, by omega⟩, ⟨_, _, rfl⟩, ?_⟩
  (conv => whnf)
  refine ⟨stV (p, Value.slice Av nv cv), rfl, ?_, ?_⟩
  ·obtain ⟨_, _, e, hr2⟩ := hrd b o rfl
   injection e with e; injection e with e1 e2; subst e1 e2
   refine ⟨_, _, rfl, fun j x hx => ?_⟩
   have h9 := hr2 _ _ (stsC_get hget j x hx)
   rw [← h9]
   congr 1
   show _ + (i : Int).toNat * 3 + j = _
   omega
  (conv => whnf)
  refine ⟨⟨_, Tryz.func148, rfl, by kernel_rfl⟩, CallS.use (do_ p hrp (.slice Av nv cv) n2 f2 _ H4 ⟨Av, nv, cv, rfl, hsv⟩ ht2) [0] rfl rfl ⟨rfl, trivial⟩ ?_⟩
  rintro e H5 G' hle5 ⟨rfl, rfl, n3, f3, ht3, rfl⟩
  (conv => whnf)
  rw [wrap64 (x := (i : Int) + 1) (by omega) (by omega)]
  rw [allN_take (by rw [List.getElem?_map, hget]; rfl)] at ht3
  refine ⟨m - (i + 1), by omega, _, _, [0], ⟨i + 1, n3, f3, by omega, ht3, rfl, rfl, rfl, rfl⟩, ?_⟩
  exact ⟨rfl, ⟨rfl, trivial⟩, rfl, rfl, rfl, rfl, trivial⟩
 ·have h1 := of_decide_eq_false h1
  obtain rfl : i = m := by omega
  have e1 : (ps.map (·.1)).take i = ps.map (·.1) := List.take_of_length_le (by rw [List.length_map]; omega)
  rw [e1] at ht2
  exact ⟨rfl, rfl, n2, f2, ht2, rfl⟩
def RGet (x : Option (List UInt8)) (e : SE) (H' : Hp) : Prop := match x with
 | none => ∃ A n c, e = .ret (.tu [.ce (.val (.slice A n c)), .ce (.val (.bool false))])
 | some v => v.length ≤ 4096 ∧ ∃ A n c, e = .ret (.tu [.ce (.val (.slice A n c)), .ce (.val (.bool true))]) ∧ SlAt H' A n c v
theorem get_ (k : ByteArray) (n : Nat) (f : Value → Option Value) (s : TN) (H : Hp) (ht : TblM H f n s) :
  CallO Tryz.prog 140 [mP, pv (.string k)] H [.map .string n f] fun e H' G' => RGet (s.1 k) e H' ∧ H.Le H' ∧ G' = [.map .string n f] := by
 have hk := ht.key k
 refine CallO.of_body tab Tryz.func140 rfl (nt := Tryz.f140.ntmps) rfl (by kernel_rfl) ?_
 (conv => whnf)
 cases hx : s.1 k with
 | none =>
  rw [hx] at hk
  refine ⟨_, hk, ?_⟩
  (conv => whnf)
  refine ⟨⟨_, Tryz.func138, rfl, by kernel_rfl⟩, CallS.use (cloneS [] none 0 0 H .nul (by decide)) [] rfl rfl trivial ?_⟩
  rintro e H5 G' hle5 ⟨⟨A, m, c, rfl, h5⟩, rfl⟩
  (conv => whnf)
  exact ⟨⟨A, m, c, rfl⟩, hle5, rfl⟩
 | some v =>
  rw [hx] at hk
  obtain ⟨h1, A, m, c, h2, h3⟩ := hk
  refine ⟨_, h2, ?_⟩
  (conv => whnf)
  refine ⟨⟨_, Tryz.func138, rfl, by kernel_rfl⟩, CallS.use (cloneS v A m c H h3 (by rw [h3.len]; omega)) [] rfl rfl trivial ?_⟩
  rintro e H5 G' hle5 ⟨⟨A5, m5, c5, rfl, h5⟩, rfl⟩
  (conv => whnf)
  exact ⟨⟨h1, A5, m5, c5, rfl, h5⟩, hle5, rfl⟩
end Go.Kx.Ka
namespace Go.Kx.Ka
open Go.Proofs Go.Kx Go.RowKit Go.Shelf
set_option maxRecDepth 20000
def cloneRen : Ren := ⟨fun n => if n = 5 then 155 else 215, fun n => if n = 4 then 4 else if n = 20 then 20 else if n = 23 then 156 else if n = 25 then 9 else 94, fun n => n⟩
theorem cloneLays : SlLaysW.n5 Tryz.prog cloneRen where
 mixed := by kernel_rfl
 f5 := ⟨_, by decide, Tryz.func155⟩
 f7 := Tryz.func215
 t4 := Tryz.underlying4
 a4 := fun w => by kernel_rfl
 z4 := fun w => by kernel_rfl
 v4 := fun w => by kernel_rfl
 t20 := Tryz.underlying20
 a20 := fun w => by kernel_rfl
 z20 := fun w => by kernel_rfl
 v20 := fun w => by kernel_rfl
 t23 := Tryz.underlying156
 a23 := fun w => by kernel_rfl
 z23 := fun w => by kernel_rfl
 v23 := fun w => by kernel_rfl
theorem clone_ (n : Nat) (f : Value → Option Value) (H : Hp) : CallO Tryz.prog 155 [.si (.ce (.self 0))] H [.map .string n f] fun e H' G' => e = .ret (.si (.ce (.self 1))) ∧ H' = H ∧ G' = [.map .string n f, .map .string n f] :=
 CallO.of_clone fun b es clock w hb => AnyW.maps_Clone cloneLays b es clock w hb
end Go.Kx.Ka
namespace Go.Kx.Ka
open Go.Proofs Go.Kx Go.RowKit Go.Kx.Wl Go.Kx.Dk Go.Kx.Cr Go.Kx.Wa Go.Kx.Kv
set_option maxRecDepth 20000
set_option linter.unusedSimpArgs false
def storeB (age : Nat) : SB := .box 158 [.ptr 2 0, .self 4, .val (.int .i64 age)]
def storeG (d : Dk) (l : Lg) (n : Nat) (f : Value → Option Value) (age : Nat) : List SB := [dataB d, diskB d, logB l, recsB l, .map .string n f, storeB age]
abbrev sP : SV := .si (.ce (.ptr 5 0))
noncomputable def tn0 : TN := (fun _ => none, 0)
noncomputable def tnOf (ls : List (List Stp)) : TN := allN tn0 ls.flatten
theorem tnOf_snoc (ls : List (List Stp)) (l : List Stp) : tnOf (ls ++ [l]) = allN (tnOf ls) l := by
 unfold tnOf allN
 rw [List.flatten_append, List.foldl_append]
 simp
theorem tnOf_tbl (ls : List (List Stp)) : (tnOf ls).1 = tblOf ls := by unfold tnOf tblOf; exact allN_tbl _ _
def lgOf (h g : Nat) (ls : List (List Stp)) (nr : Nat) (xs : List Value) : Lg := ⟨h, g, 16 + costs (ls.map recS), false, nr, xs⟩
theorem costs_len (rs : List (List UInt8)) : 9 * rs.length ≤ costs rs := by
 induction rs with
 | nil => exact Nat.zero_le _
 | cons b r ih =>
  have : costs (b :: r) = 9 + b.length + costs r := by unfold costs; simp
  rw [this, List.length_cons]
  omega
theorem steps_len (l : List Stp) : l.length ≤ (recS l).length := by
 unfold recS
 induction l with
 | nil => exact Nat.zero_le _
 | cons p r ih =>
  rw [List.flatMap_cons, List.length_append, List.length_cons]
  have := List.length_pos_iff.2 (stB_ne p)
  omega
theorem rec_le {rs : List (List UInt8)} {b : List UInt8} (h : b ∈ rs) : b.length ≤ costs rs := by
 induction rs with
 | nil => simp at h
 | cons a r ih =>
  have : costs (a :: r) = 9 + a.length + costs r := by unfold costs; simp
  rcases List.mem_cons.1 h with rfl | h
  ·omega
  ·have := ih h; omega
def RStore (d : Dk) (D : List UInt8) (h g : Nat) (ls : List (List Stp)) (e : SE) (H' : Hp) (G' : List SB) : Prop :=
 e = .ret (.tu [.ce (.ptr 5 0), .ce (.val (.int .i64 0))]) ∧ ∃ wr nr xs n f, TblM H' f n (tnOf ls) ∧ nr = ls.length ∧ G' = storeG (Dk.put d D wr) (lgOf h g ls nr xs) n f 0
theorem open_ (d : Dk) (hd : Fine d) (D : List UInt8) (h g : Nat) (ls : List (List Stp)) (hop : openP d.bs = ⟨D, h, g, 16 + costs (ls.map recS), ls.map recS⟩) (hr : ∀ l ∈ ls, ∀ p ∈ l, RightSt p) (hroom : 16 + costs (ls.map recS) < d.bs.length / 2) (H : Hp) :
  CallO Tryz.prog 42 [dP] H (diskG d) fun e H' G' => RStore d D h g ls e H' G' ∧ H.Le H' := by
 have hmost := hd.most
 have hlen := costs_len (ls.map recS)
 rw [List.length_map] at hlen
 have hwo := Wa.open_ d hd (by rw [hop]; exact hroom) H
 unfold ROpen at hwo
 rw [hop] at hwo
 dsimp only at hwo
 refine CallO.of_body tab Tryz.func42 rfl (nt := Tryz.f42.ntmps) rfl (by kernel_rfl) ?_
 (conv => whnf)
 refine ⟨⟨_, Tryz.func87, rfl, by kernel_rfl⟩, CallS.use hwo [0, 1] rfl rfl ⟨rfl, rfl, trivial⟩ ?_⟩
 rintro e H2 G' hle2 ⟨⟨rfl, wr, xs, hrs, rfl⟩, hle2'⟩
 (conv => whnf)
 have hrc := fun H hr => records_ (Dk.put d D wr) (lgOf h g ls (ls.map recS).length xs) (ls.map recS) rfl (by rw [List.length_map]; omega) (fun b hb => by have := rec_le hb; omega) H hr
 refine ⟨⟨_, Tryz.func88, rfl, by kernel_rfl⟩, CallS.use (hrc H2 hrs) [0, 1, 2, 3] rfl rfl ⟨rfl, rfl, rfl, rfl, trivial⟩ ?_⟩
 rintro e H3 G' hle3 ⟨⟨A, n, cap, ys, rfl, hn, hys, hA⟩, hle3', rfl⟩
 rw [List.length_map] at hn
 subst hn
 (conv => whnf)
 refine WS.loop (fun k' F H4 G => ∃ (i : Nat) (n2 : Nat) (f2 : Value → Option Value), i ≤ ls.length ∧ TblM H4 f2 n2 (tnOf (ls.take i)) ∧ k' = ls.length - i ∧ F = [(6, sP), (24, pv (.slice A ls.length cap)), (25, iV ls.length), (26, iV i)] ∧ H3.Le H4 ∧ G = storeG (Dk.put d D wr) (lgOf h g ls (ls.map recS).length xs) n2 f2 0) (ls.length + 1) ?_ ?_
 ·refine ⟨ls.length, by omega, _, _, [0, 1, 2, 3, 4, 5], ⟨0, 0, fun _ => none, by omega, tbl_nil H3, rfl, rfl, .refl _, rfl⟩, ?_⟩
  exact ⟨rfl, ⟨rfl, rfl, rfl, rfl, rfl, rfl, trivial⟩, rfl, rfl, rfl, rfl, trivial⟩
 rintro k' F H4 G hle4 ⟨i, n2, f2, hi, ht2, rfl, rfl, hle, rfl⟩
 refine codeL.go tab ?_
 (conv => whnf)
 refine br.of (fun h1 => ?_) (fun h1 => ?_) <;> (conv => whnf)
 ·have h1 := of_decide_eq_true h1
  have hil : i < ls.length := by omega
  have hget : ls[i]? = some ls[i] := List.getElem?_eq_getElem hil
  have hrl := hr ls[i] (List.getElem_mem hil)
  have hlm : recS ls[i] ∈ ls.map recS := List.mem_map.2 ⟨_, List.getElem_mem hil, rfl⟩
  generalize ls[i] = l at hget hrl hlm
  have hll := steps_len l
  have hlc := rec_le hlm
  rcases hA with h0 | ⟨b, o, rfl, hrd⟩
  ·omega
  obtain ⟨v, hv, A2, n3, c3, rfl, hs3⟩ := All2.get' hys (i := i) (b := recS l) (by rw [List.getElem?_map, hget]; rfl)
  have hs4 := hs3.mono hle
  refine ⟨⟨by omega, by omega⟩, ⟨_, _, rfl⟩, ?_⟩
  (conv => whnf)
  refine ⟨.slice A2 n3 c3, ⟨b, o, rfl, ?_⟩, ?_⟩
  ·obtain ⟨_, _, e, hr2⟩ := hrd
   injection e with e; injection e with e1 e2; subst e1 e2
   have := hr2 i _ hv
   show H4 _ (_ + (i : Int).toNat * 1) = _
   rw [show (i : Int).toNat * 1 = i by omega]
   exact hle _ _ _ (by simpa using this)
  (conv => whnf)
  refine ⟨⟨_, Tryz.func89, rfl, by kernel_rfl⟩, CallS.use (steps_ l hrl (by omega) A2 n3 c3 H4 hs4) [] rfl rfl trivial ?_⟩
  rintro e H5 G' hle5 ⟨⟨A5, n5, c5, ps, rfl, hps, hok, hn5, hA5⟩, hle5', rfl⟩
  (conv => whnf)
  have hal := all_ ps (fun q hq => hrl q.1 (by rw [← hps]; exact List.mem_map.2 ⟨q, hq, rfl⟩)) A5 n5 c5 hn5 (hA5.imp id fun ⟨b, o, h1, _⟩ => ⟨b, o, h1⟩) n2 f2 (tnOf (ls.take i)) H5 (fun b o e => by
   rcases hA5 with h0 | ⟨b', o', e', hrd⟩
   ·rw [h0] at hn5
    have : ps = [] := List.eq_nil_of_length_eq_zero hn5.symm
    rw [this]
    exact ⟨b, o, rfl, fun j x hx => by simp [stsC] at hx⟩
   ·rw [e] at e'; injection e' with e'; injection e' with e1 e2; subst e1 e2; exact hrd) hok (ht2.mono hle5) (by have := congrArg List.length hps; rw [List.length_map] at this; omega)
  refine ⟨⟨_, Tryz.func90, rfl, by kernel_rfl⟩, CallS.use hal [4] rfl rfl ⟨rfl, trivial⟩ ?_⟩
  rintro e H6 G' hle6 ⟨rfl, rfl, n6, f6, ht6, rfl⟩
  (conv => whnf)
  rw [wrap64 (x := (i : Int) + 1) (by omega) (by omega)]
  have et : allN (tnOf (ls.take i)) (ps.map (·.1)) = tnOf (ls.take (i + 1)) := by
   rw [hps, List.take_add_one, hget, Option.toList_some, tnOf_snoc]
  rw [et] at ht6
  refine ⟨ls.length - (i + 1), by omega, _, _, [0, 1, 2, 3, 4, 5], ⟨i + 1, n6, f6, by omega, ht6, rfl, rfl, hle.trans hle5, rfl⟩, ?_⟩
  exact ⟨rfl, ⟨rfl, rfl, rfl, rfl, rfl, rfl, trivial⟩, rfl, rfl, rfl, rfl, trivial⟩
 ·have h1 := of_decide_eq_false h1
  obtain rfl : i = ls.length := by omega
  rw [List.take_length] at ht2
  exact ⟨⟨rfl, wr, _, xs, n2, f2, ht2, by rw [List.length_map], rfl⟩, (hle2.trans hle3).trans hle⟩
end Go.Kx.Ka
namespace Go.Kx.Ka
open Go.Proofs Go.Kx Go.RowKit Go.Kx.Wl Go.Kx.Dk Go.Kx.Cr Go.Kx.Wa Go.Kx.Kv
set_option maxRecDepth 20000
set_option linter.unusedSimpArgs false
def changeB (j : Nat) (age : Nat) (over : Bool) : SB := .box 171 [.ptr 5 0, .self 6, .self j, .val (.int .i64 age), .val (.bool over)]
def stepsB (ps : List (Stp × Value)) : SB := .row 213 3 ps.length (stsC ps)
def changeG (d : Dk) (l : Lg) (n : Nat) (f : Value → Option Value) (age : Nat) (n2 : Nat) (f2 : Value → Option Value) (ps : List (Stp × Value)) (cage : Nat) (over : Bool) : List SB :=
 [dataB d, diskB d, logB l, recsB l, .map .string n f, storeB age, .map .string n2 f2, changeB 8 cage over, stepsB ps]
abbrev cP : SV := .si (.ce (.ptr 7 0))
theorem begin_ (d : Dk) (l : Lg) (n : Nat) (f : Value → Option Value) (age : Nat) (H : Hp) :
  CallO Tryz.prog 95 [sP] H (storeG d l n f age) fun e H' G' => e = .ret (.si (.ce (.ptr 7 0))) ∧ H' = H ∧ G' = changeG d l n f age n f [] age false := by
 have h : CallO Tryz.prog 95 [sP] H (storeG d l n f age) fun e H' G' => e = .ret (.si (.ce (.ptr 7 0))) ∧ H' = H ∧ G' = storeG d l n f age ++ [.map .string n f, .box 171 [.ptr 5 0, .self 6, .val (.slice none 0 0), .val (.int .i64 age), .val (.bool false)]] := by
  refine CallO.of_body tab Tryz.func95 rfl (nt := Tryz.f95.ntmps) rfl (by kernel_rfl) ?_
  (conv => whnf)
  refine WS.draw tab mixed (.take 0 (.take 1 (.take 2 (.take 3 (.take 4 (.take 6 (.take 7 (.take 8 (.take 9 (.alt 5 (.alt 10 (.alt 11 (.take 12 .done) .no) .no) .no)))))))))) (by kernel_rfl) [] ?_
  (conv => whnf)
  refine And.intro ?_ trivial
  (conv => whnf)
  refine ⟨⟨_, Tryz.func155, rfl, by kernel_rfl⟩, CallS.use (clone_ n f H) [4] rfl rfl ⟨rfl, trivial⟩ ?_⟩
  rintro e H2 G' hle2 ⟨rfl, rfl, rfl⟩
  (conv => whnf)
  refine ⟨⟨rfl, rfl, rfl, rfl, rfl, rfl, trivial⟩, ?_⟩
  (conv => whnf)
  repeat' (first
   | exact trivial
   | exact rfl
   | exact ⟨rfl, rfl, rfl⟩
   | (refine And.intro ?_ ?_ <;> (conv => whnf)))
 refine CallO.nilCell h ?_
 rintro e H' G' hle ⟨rfl, rfl, rfl⟩
 exact .inr ⟨7, 2, _, _, 213, 3, rfl, rfl, rfl, rfl, rfl⟩
theorem cancel_ (d : Dk) (l : Lg) (n : Nat) (f : Value → Option Value) (age n2 : Nat) (f2 : Value → Option Value) (ps : List (Stp × Value)) (cage : Nat) (over : Bool) (H : Hp) :
  CallO Tryz.prog 49 [cP] H (changeG d l n f age n2 f2 ps cage over) fun e H' G' => e = .ret (.tu []) ∧ H' = H ∧ G' = changeG d l n f age n2 f2 ps cage true := by
 refine CallO.of_body tab Tryz.func49 rfl (nt := Tryz.f49.ntmps) rfl (by kernel_rfl) ?_
 (conv => whnf)
 exact ⟨rfl, rfl, rfl⟩
theorem cget_ (k : ByteArray) (d : Dk) (l : Lg) (n : Nat) (f : Value → Option Value) (age n2 : Nat) (f2 : Value → Option Value) (ps : List (Stp × Value)) (cage : Nat) (over : Bool) (s : TN) (H : Hp) (ht : TblM H f2 n2 s) :
  CallO Tryz.prog 85 [cP, pv (.string k)] H (changeG d l n f age n2 f2 ps cage over) fun e H' G' => RGet (s.1 k) e H' ∧ H.Le H' ∧ G' = changeG d l n f age n2 f2 ps cage over := by
 have hg := get_ k n2 f2 s H ht
 refine CallO.of_body tab Tryz.func85 rfl (nt := Tryz.f85.ntmps) rfl (by kernel_rfl) ?_
 (conv => whnf)
 refine ⟨⟨_, Tryz.func140, rfl, by kernel_rfl⟩, CallS.use hg [6] rfl rfl ⟨rfl, trivial⟩ ?_⟩
 rintro e H2 G' hle2 ⟨hr, hle, rfl⟩
 cases hx : s.1 k with
 | none =>
  rw [hx] at hr
  obtain ⟨A, m, c, rfl⟩ := hr
  (conv => whnf)
  exact ⟨⟨A, m, c, rfl⟩, hle, rfl⟩
 | some v =>
  rw [hx] at hr
  obtain ⟨h1, A, m, c, rfl, h2⟩ := hr
  (conv => whnf)
  exact ⟨⟨h1, A, m, c, rfl, h2⟩, hle, rfl⟩
theorem len_ (d : Dk) (l : Lg) (n : Nat) (f : Value → Option Value) (age : Nat) (H : Hp) :
  CallO Tryz.prog 79 [sP] H (storeG d l n f age) fun e H' G' => e = .ret (iV n) ∧ H' = H ∧ G' = storeG d l n f age := by
 refine CallO.of_body tab Tryz.func79 rfl (nt := Tryz.f79.ntmps) rfl (by kernel_rfl) ?_
 (conv => whnf)
 exact ⟨rfl, rfl, rfl⟩
def changeH (d : Dk) (l : Lg) (n : Nat) (f : Value → Option Value) (age : Nat) (n2 : Nat) (f2 : Value → Option Value) (ps : List (Stp × Value)) (cage : Nat) (over : Bool) : List SB :=
 [dataB d, diskB d, logB l, recsB l, .map .string n f, storeB age, .map .string n2 f2, changeB 9 cage over, .dead, stepsB ps]
theorem add_ (p : Stp) (hp : RightSt p) (v : Value) (d : Dk) (l : Lg) (n : Nat) (f : Value → Option Value) (age n2 : Nat) (f2 : Value → Option Value) (ps : List (Stp × Value)) (hps : ps.length < 64) (cage : Nat) (s : TN) (H : Hp) (hv : StpAt H p v) (ht : TblM H f2 n2 s) :
  CallO Tryz.prog 137 [cP, .si (.ag (stC p v))] H (changeG d l n f age n2 f2 ps cage false) fun e H' G' => e = .ret (pv (.int .i64 0)) ∧ H.Le H' ∧ ∃ n3 f3, TblM H' f3 n3 (doN s p) ∧ G' = changeH d l n f age n3 f3 (ps ++ [(p, v)]) cage false := by
 obtain ⟨A, m, c, rfl, hsv⟩ := hv
 have hd := do_ p hp (.slice A m c) n2 f2 s
 obtain ⟨k, key, val⟩ := p
 obtain ⟨p1, p2, p3⟩ := hp
 dsimp only at p1 p2 p3
 have hne : strEq key ⟨#[]⟩ = false := by
  cases h : strEq key ⟨#[]⟩
  ·rfl
  ·rw [strEq_iff.1 h] at p2; exact absurd p2.1 (by decide)
 have hml := hsv.len
 dsimp only at hml
 have h : CallO Tryz.prog 137 [cP, .si (.ag (stC ⟨k, key, val⟩ (.slice A m c)))] H (changeG d l n f age n2 f2 ps cage false) fun e H' G' => e = .ret (pv (.int .i64 0)) ∧ H.Le H' ∧ ∃ n3 f3 x, TblM H' f3 n3 (doN s ⟨k, key, val⟩) ∧
   G' = [dataB d, diskB d, logB l, recsB l, .map .string n f, storeB age, .map .string n3 f3, changeB 10 cage false, .dead, x, .row 213 3 (ps.length + 1) (stsC ps ++ stV (⟨k, key, val⟩, Value.slice A m c))] := by
  refine CallO.of_body tab Tryz.func137 rfl (nt := Tryz.f137.ntmps) rfl (by kernel_rfl) ?_
  (conv => whnf)
  rw [hne]
  (conv => whnf)
  refine br.of (fun h => by have h := of_decide_eq_true h; dsimp only at h; omega) (fun h => ?_)
  (conv => whnf)
  refine br.of (fun h => by have h := of_decide_eq_true h; omega) (fun h => ?_)
  (conv => whnf)
  have e1 : (((ps.length : Nat) : Int) == 64) = false := by simp; omega
  rw [e1]
  (conv => whnf)
  refine WS.draw tab mixed (.take 0 (.take 1 (.take 2 (.take 3 (.take 5 (.alt 4 (.alt 6 (.alt 7 (.take 8 (.take 9 (.alt 10 .done .no))) .no) .no) (.alt 6 (.alt 4 (.alt 7 (.take 8 (.take 9 (.alt 10 .done .no))) .no) .no) .no))))))) (by kernel_rfl) [7, 8] ?_
  (conv => whnf)
  repeat' (first
   | exact trivial
   | exact rfl
   | (refine ⟨by decide, .inl ?_⟩; intro g1 H2 hle2 hrd; (conv => whnf))
   | (refine And.intro ?_ ?_ <;> (conv => whnf)))
  all_goals
   refine ⟨stV (⟨k, key, val⟩, Value.slice A m c), rfl, hrd, fun u hu => by simp [stV] at hu; rcases hu with rfl | rfl | rfl <;> rfl, ?_⟩
   (conv => whnf)
   refine ⟨by show (ps.length + 1) * 49 ≤ 140737488355328; omega, ?_⟩
   (conv => whnf)
   repeat' (first
    | exact trivial
    | exact rfl
    | (refine WS.draw tab mixed (.take 0 (.take 1 (.take 2 (.take 3 (.take 4 (.alt 5 .done .no)))))) (by kernel_rfl) [6] ?_; (conv => whnf))
    | exact ⟨_, Tryz.func148, rfl, by kernel_rfl⟩
    | (refine CallS.use (hd H2 ⟨A, m, c, rfl, hsv.mono hle2⟩ (ht.mono hle2)) [6] rfl rfl ⟨rfl, trivial⟩ ?_; rintro e H3 G' hle3 ⟨rfl, rfl, n3, f3, ht3, rfl⟩; (conv => whnf))
    | exact ⟨rfl, hle2, n3, f3, _, ht3, rfl⟩
    | (refine And.intro ?_ ?_ <;> (conv => whnf)))
 refine CallO.sub h ?_
 rintro e H' G' hle ⟨rfl, hle', n3, f3, x, ht3, rfl⟩
 refine ⟨_, changeH d l n f age n3 f3 (ps ++ [(⟨k, key, val⟩, Value.slice A m c)]) cage false, [0, 1, 2, 3, 4, 5, 6, 7, 8, 10], rfl, ⟨rfl, rfl, rfl, rfl, rfl, rfl, rfl, rfl, trivial, ?_, trivial⟩, rfl, rfl, hle', n3, f3, ht3, rfl⟩
 have e1 : stepsB (ps ++ [(⟨k, key, val⟩, Value.slice A m c)]) = .row 213 3 (ps.length + 1) (stsC ps ++ stV (⟨k, key, val⟩, Value.slice A m c)) := by
  unfold stepsB
  rw [stsC_snoc, List.length_append]
  rfl
 rw [e1]
 exact rfl
end Go.Kx.Ka
namespace Go.Kx.Ka
open Go.Proofs Go.Kx Go.RowKit Go.Kx.Wl Go.Kx.Dk Go.Kx.Cr Go.Kx.Wa Go.Kx.Kv
set_option maxRecDepth 20000
set_option linter.unusedSimpArgs false
theorem put_ (k : ByteArray) (hk : 1 ≤ k.size ∧ k.size ≤ 128) (A : Option Addr) (m c : Nat) (val : List UInt8) (hval : val.length ≤ 4096) (d : Dk) (l : Lg) (n : Nat) (f : Value → Option Value) (age n2 : Nat) (f2 : Value → Option Value) (ps : List (Stp × Value)) (hps : ps.length < 64) (cage : Nat) (s : TN) (H : Hp) (hv : SlAt H A m c val) (ht : TblM H f2 n2 s) :
  CallO Tryz.prog 83 [cP, pv (.string k), pv (.slice A m c)] H (changeG d l n f age n2 f2 ps cage false) fun e H' G' => e = .ret (pv (.int .i64 0)) ∧ H.Le H' ∧ ∃ n3 f3 v, TblM H' f3 n3 (doN s ⟨1, k, val⟩) ∧ StpAt H' ⟨1, k, val⟩ v ∧ G' = changeH d l n f age n3 f3 (ps ++ [(⟨1, k, val⟩, v)]) cage false := by
 refine CallO.of_body tab Tryz.func83 rfl (nt := Tryz.f83.ntmps) rfl (by kernel_rfl) ?_
 (conv => whnf)
 refine ⟨⟨_, Tryz.func138, rfl, by kernel_rfl⟩, CallS.use (cloneS val A m c H hv (by rw [hv.len]; omega)) [] rfl rfl trivial ?_⟩
 rintro e H2 G' hle2 ⟨⟨A2, m2, c2, rfl, h2⟩, rfl⟩
 (conv => whnf)
 have ha := add_ ⟨1, k, val⟩ ⟨.inl rfl, hk, hval⟩ (.slice A2 m2 c2) d l n f age n2 f2 ps hps cage s H2 ⟨A2, m2, c2, rfl, h2⟩ (ht.mono hle2)
 refine ⟨⟨_, Tryz.func137, rfl, by kernel_rfl⟩, CallS.use ha [0, 1, 2, 3, 4, 5, 6, 7, 8] rfl rfl ⟨rfl, rfl, rfl, rfl, rfl, rfl, rfl, rfl, rfl, trivial⟩ ?_⟩
 rintro e H3 G' hle3 ⟨rfl, hle3', n3, f3, ht3, rfl⟩
 (conv => whnf)
 exact ⟨rfl, hle2.trans hle3, n3, f3, _, ht3, ⟨A2, m2, c2, rfl, h2.mono hle3⟩, rfl⟩
theorem room2 (n : Nat) (hn : n ≤ 140737488355328) : n * (1 + 1) ≤ 140737488355328 + n * Nat.min 1 1 := by
 have : Nat.min 1 1 = 1 := rfl
 rw [this]
 omega
theorem i_shr (a : Nat) : ((a : Nat) : Int).fdiv (2 ^ min (Int.toNat 8) IntKind.i64.bits) = ((a / 256 : Nat) : Int) := by
 rw [show min (Int.toNat 8) IntKind.i64.bits = 8 by decide, Int.fdiv_eq_ediv_of_nonneg _ (by decide), Int.natCast_ediv]
 rfl
theorem put_row (key : ByteArray) (val : List UInt8) (m : Nat) (hm : m = val.length) : SB.row 5 1 (stB ⟨1, key, val⟩).length (bCells (stB ⟨1, key, val⟩)) = .row 5 1 (2 + key.size + 2 + m) (([.int .u8 1, .int .u8 (IntKind.u8.wrap (key.size : Int))] ++ byteCells key) ++ [.int .u8 (IntKind.u8.wrap (((m : Nat) : Int).fdiv (2 ^ min (Int.toNat 8) IntKind.i64.bits))), .int .u8 (IntKind.u8.wrap (m : Int))] ++ bCells val) := by
 rw [i_shr, Cr.w8, Cr.w8, Cr.w8, ← str_kb key, ← cells_str, str_kb]
 subst hm
 have e1 : stB ⟨1, key, val⟩ = (([1, UInt8.ofNat key.size] ++ kb key) ++ [UInt8.ofNat (val.length / 256), UInt8.ofNat val.length]) ++ val := by unfold stB; simp
 rw [e1, List.length_append, List.length_append, List.length_append, kb_len, ← bCells_append, ← bCells_append, ← bCells_append]
 rfl
theorem bytes_ (p : Stp) (hp : RightSt p) (v : Value) (H : Hp) (hv : StpAt H p v) : CallO Tryz.prog 156 [.si (.ag (stC p v))] H [] fun e H' G' => RetS (stB p) e H' ∧ G' = [] := by
 obtain ⟨A, m, c, rfl, hs⟩ := hv
 obtain ⟨k, key, val⟩ := p
 obtain ⟨p1, p2, p3⟩ := hp
 dsimp only at p1 p2 p3 hs
 have hml := hs.len
 refine CallO.slice (t := 5) (n := (stB ⟨k, key, val⟩).length) rfl ?_
 rcases p1 with rfl | ⟨rfl, rfl⟩
 ·have h : CallO Tryz.prog 156 [.si (.ag (stC ⟨1, key, val⟩ (.slice A m c)))] H [] fun e _ G' => e = .ret (.si (.ce (.self 3))) ∧ ∃ x y z, G' = [x, y, z, .row 5 1 (stB ⟨1, key, val⟩).length (bCells (stB ⟨1, key, val⟩))] := by
   refine CallO.of_body tab Tryz.func156 rfl (nt := Tryz.f156.ntmps) rfl (by kernel_rfl) ?_
   (conv => whnf)
   refine ⟨by decide, .inl ?_⟩
   intro g H2 hle2 hrd2
   (conv => whnf)
   refine ⟨fun h => absurd h (by show ¬ key.size = 0; omega), fun _ => ⟨rfl, _, rfl, hrd2, room2 _ (by show 2 + key.size ≤ _; omega), ?_⟩⟩
   (conv => whnf)
   refine ⟨by decide, ?_⟩
   (conv => whnf)
   refine ⟨by decide, .inl ?_⟩
   intro g2 H3 hle3 hrd3
   (conv => whnf)
   refine ⟨_, rfl, hrd3, ?_, ?_⟩
   ·intro u hu
    simp at hu
    rcases hu with rfl | rfl <;> rfl
   (conv => whnf)
   refine ⟨by show (2 + key.size + 2) * 2 ≤ 140737488355328; omega, ?_⟩
   (conv => whnf)
   rcases hs.rd with ⟨h0, rfl⟩ | ⟨b, o, rfl, hr⟩
   ·subst h0
    (conv => whnf)
    refine ⟨by show (2 + key.size + 2 + 0) * 2 ≤ 140737488355328; omega, ?_⟩
    (conv => whnf)
    obtain rfl : val = [] := List.eq_nil_of_length_eq_zero hml.symm
    rw [put_row key [] 0 rfl]
    exact ⟨rfl, _, _, _, rfl⟩
   ·refine ⟨bCells val, by rw [bCells_length, hml]; exact (Nat.mul_one _).symm, (hr.mono hle2).mono hle3, bCells_one val, ?_⟩
    (conv => whnf)
    refine ⟨by show (2 + key.size + 2 + m) * 2 ≤ 140737488355328; omega, ?_⟩
    (conv => whnf)
    rw [put_row key val m hml]
    exact ⟨rfl, _, _, _, rfl⟩
  refine CallO.sub h ?_
  rintro e H' G' hle ⟨rfl, x, y, z, rfl⟩
  exact ⟨.si (.ce (.self 0)), [.row 5 1 (stB ⟨1, key, val⟩).length (bCells (stB ⟨1, key, val⟩))], [3], rfl, ⟨rfl, trivial⟩, rfl, rfl, rfl⟩
 ·have h : CallO Tryz.prog 156 [.si (.ag (stC ⟨2, key, []⟩ (.slice A m c)))] H [] fun e _ G' => e = .ret (.si (.ce (.self 1))) ∧ ∃ x, G' = [x, .row 5 1 (stB ⟨2, key, []⟩).length (bCells (stB ⟨2, key, []⟩))] := by
   refine CallO.of_body tab Tryz.func156 rfl (nt := Tryz.f156.ntmps) rfl (by kernel_rfl) ?_
   (conv => whnf)
   refine ⟨by decide, .inl ?_⟩
   intro g H2 hle2 hrd2
   (conv => whnf)
   refine ⟨fun h => absurd h (by show ¬ key.size = 0; omega), fun _ => ⟨rfl, _, rfl, hrd2, room2 _ (by show 2 + key.size ≤ _; omega), ?_⟩⟩
   (conv => whnf)
   have er : SB.row 5 1 (stB ⟨2, key, []⟩).length (bCells (stB ⟨2, key, []⟩)) = .row 5 1 (2 + key.size) ([.int .u8 2, .int .u8 (IntKind.u8.wrap (key.size : Int))] ++ byteCells key) := by
    rw [Cr.w8, ← str_kb key, ← cells_str, str_kb]
    have e1 : stB ⟨2, key, []⟩ = [2, UInt8.ofNat key.size] ++ kb key := by unfold stB; simp
    rw [e1, List.length_append, kb_len, ← bCells_append]
    rfl
   rw [er]
   exact ⟨rfl, _, rfl⟩
  refine CallO.sub h ?_
  rintro e H' G' hle ⟨rfl, x, rfl⟩
  exact ⟨.si (.ce (.self 0)), [.row 5 1 (stB ⟨2, key, []⟩).length (bCells (stB ⟨2, key, []⟩))], [1], rfl, ⟨rfl, trivial⟩, rfl, rfl, rfl⟩
theorem recS_take {l : List Stp} {i : Nat} {p : Stp} (hi : l[i]? = some p) : recS (l.take i) ++ stB p = recS (l.take (i + 1)) := by
 unfold recS
 rw [List.take_add_one, hi, List.flatMap_append]
 simp
theorem recS_le {l : List Stp} (h : ∀ p ∈ l, RightSt p) : (recS l).length ≤ l.length * 4400 := by
 unfold recS
 induction l with
 | nil => exact Nat.zero_le _
 | cons p r ih =>
  rw [List.flatMap_cons, List.length_append, List.length_cons]
  have := ih fun q hq => h q (List.mem_cons_of_mem _ hq)
  obtain ⟨_, h2, h3⟩ := h p List.mem_cons_self
  have : (stB p).length ≤ 4400 := by
   unfold stB
   rw [List.length_cons, List.length_cons, List.length_append, kb_len]
   split
   ·simp only [List.length_cons]; omega
   ·simp only [List.length_nil]; omega
  omega
theorem record_ (d : Dk) (l : Lg) (n : Nat) (f : Value → Option Value) (age n2 : Nat) (f2 : Value → Option Value) (ps : List (Stp × Value)) (hps : ps.length ≤ 64) (hr : ∀ q ∈ ps, RightSt q.1) (cage : Nat) (over : Bool) (H : Hp) (hok : StsOk H ps) :
  CallO Tryz.prog 97 [cP] H (changeG d l n f age n2 f2 ps cage over) fun e H' G' => RetS (recS (ps.map (·.1))) e H' ∧ H.Le H' ∧ G' = changeG d l n f age n2 f2 ps cage over := by
 have hr' : ∀ p ∈ ps.map (·.1), RightSt p := fun p hp => by obtain ⟨q, hq, rfl⟩ := List.mem_map.1 hp; exact hr q hq
 have hmax : ∀ i, (recS ((ps.map (·.1)).take i)).length ≤ 300000 := fun i => by
  have := recS_le (l := (ps.map (·.1)).take i) fun p hp => hr' p (List.mem_of_mem_take hp)
  have h2 : ((ps.map (·.1)).take i).length ≤ 64 := by rw [List.length_take, List.length_map]; omega
  omega
 have h : CallO Tryz.prog 97 [cP] H (changeG d l n f age n2 f2 ps cage over) fun e H' G' => e = .ret (.si (.ce (.self 9))) ∧ H.Le H' ∧ ∃ x, G' = dataB d :: diskB d :: logB l :: recsB l :: .map .string n f :: storeB age :: .map .string n2 f2 :: changeB 8 cage over :: stepsB ps :: .row 5 1 (recS (ps.map (·.1))).length (bCells (recS (ps.map (·.1)))) :: x := by
  refine CallO.of_body tab Tryz.func97 rfl (nt := Tryz.f97.ntmps) rfl (by kernel_rfl) ?_
  (conv => whnf)
  refine WS.nilRow 3 5 1 rfl ?_
  (conv => whnf)
  refine WS.loop (fun k' F H4 G => ∃ (i : Nat), i ≤ ps.length ∧ k' = ps.length - i ∧ F = [(3, .si (.ce (.self 9))), (9, .si (.ce (.self 8))), (10, iV ps.length), (11, iV i)] ∧ H.Le H4 ∧ G = changeG d l n f age n2 f2 ps cage over ++ [.row 5 1 (recS ((ps.map (·.1)).take i)).length (bCells (recS ((ps.map (·.1)).take i)))]) (ps.length + 1) ?_ ?_
  ·refine ⟨ps.length, by omega, _, _, [0, 1, 2, 3, 4, 5, 6, 7, 8, 9], ⟨0, by omega, rfl, rfl, .refl _, rfl⟩, ?_⟩
   exact ⟨rfl, ⟨rfl, rfl, rfl, rfl, rfl, rfl, rfl, rfl, rfl, rfl, trivial⟩, rfl, rfl, rfl, rfl, trivial⟩
  rintro k' F H4 G hle4 ⟨i, hi, rfl, rfl, hle, rfl⟩
  refine codeL.go tab ?_
  (conv => whnf)
  refine br.of (fun h1 => ?_) (fun h1 => ?_) <;> (conv => whnf)
  ·have h1 := of_decide_eq_true h1
   have hil : i < ps.length := by omega
   have hget : ps[i]? = some ps[i] := List.getElem?_eq_getElem hil
   have hrp := hr ps[i] (List.getElem_mem hil)
   have hop := hok ps[i] (List.getElem_mem hil)
   generalize ps[i] = q at hget hrp hop
   obtain ⟨p, v⟩ := q
   obtain ⟨Av, nv, cv, rfl, hsv⟩ := hop
   refine ⟨⟨by omega, by omega⟩, ?_⟩
   (conv => whnf)
   refine ⟨stV (p, Value.slice Av nv cv), rfl, fun j x hx => ?_, ?_⟩
   ·have := stsC_get hget j x hx
    rw [show (i : Int).toNat * 3 + j = i * 3 + j by omega]
    exact this
   (conv => whnf)
   refine ⟨⟨_, Tryz.func156, rfl, by kernel_rfl⟩, CallS.use (bytes_ p hrp (.slice Av nv cv) H4 ⟨Av, nv, cv, rfl, hsv.mono hle⟩) [] rfl rfl trivial ?_⟩
   rintro e H5 G' hle5 ⟨⟨A5, n5, c5, rfl, h5⟩, rfl⟩
   have hn5 := h5.len
   have hpos := List.length_pos_iff.2 (stB_ne p)
   obtain ⟨b5, o5, rfl, hr5⟩ := h5.at_ (by omega)
   (conv => whnf)
   refine ⟨bCells (stB p), by rw [bCells_length, hn5]; exact (Nat.mul_one _).symm, hr5, bCells_one _, ?_⟩
   (conv => whnf)
   have hgl : (ps.map (·.1))[i]? = some p := by rw [List.getElem?_map, hget]; rfl
   have hrt := recS_take hgl
   have hm1 := hmax (i + 1)
   have hl1 := congrArg List.length hrt
   rw [List.length_append] at hl1
   refine ⟨by show ((recS ((ps.map (·.1)).take i)).length + n5) * 2 ≤ 140737488355328; omega, ?_⟩
   (conv => whnf)
   rw [wrap64 (x := (i : Int) + 1) (by omega) (by omega)]
   refine ⟨ps.length - (i + 1), by omega, _, changeG d l n f age n2 f2 ps cage over ++ [.row 5 1 (recS ((ps.map (·.1)).take (i + 1))).length (bCells (recS ((ps.map (·.1)).take (i + 1))))], [0, 1, 2, 3, 4, 5, 6, 7, 8, 11], ⟨i + 1, by omega, rfl, rfl, hle.trans hle5, rfl⟩, ?_⟩
   refine ⟨rfl, ⟨rfl, rfl, rfl, rfl, rfl, rfl, rfl, rfl, rfl, ?_, trivial⟩, rfl, rfl, rfl, rfl, trivial⟩
   have hrow : SB.row 5 1 (recS ((ps.map (·.1)).take (i + 1))).length (bCells (recS ((ps.map (·.1)).take (i + 1)))) = .row 5 1 ((recS ((ps.map (·.1)).take i)).length + n5) (bCells (recS ((ps.map (·.1)).take i)) ++ bCells (stB p)) := by rw [← hrt, List.length_append, hn5, bCells_append]
   rw [hrow]
   exact rfl
  ·have h1 := of_decide_eq_false h1
   obtain rfl : i = ps.length := by omega
   have e1 : (ps.map (·.1)).take ps.length = ps.map (·.1) := List.take_of_length_le (by rw [List.length_map]; exact Nat.le_refl _)
   rw [e1]
   exact ⟨rfl, hle, [], rfl⟩
 refine CallO.sub (CallO.frz (K := fun e H' G' => RetS (recS (ps.map (·.1))) e H' ∧ H.Le H' ∧ ∃ x, G' = dataB d :: diskB d :: logB l :: recsB l :: .map .string n f :: storeB age :: .map .string n2 f2 :: changeB 8 cage over :: stepsB ps :: .dead :: x) h ?_) ?_
 ·rintro e H' G' hle ⟨rfl, hle', x, rfl⟩
  refine ⟨9, _, 1, _, _, rfl, fun h0 => by rw [List.eq_nil_of_length_eq_zero h0]; rfl, fun x2 H2 hle2 hfr => ?_⟩
  obtain ⟨A, cap, rfl, hb⟩ := SlAt.of_frozen rfl hfr
  exact ⟨⟨A, _, cap, rfl, hb⟩, hle'.trans hle2, _, rfl⟩
 ·rintro e H' G' hle ⟨⟨A, m, cap, rfl, hb⟩, hle', x, rfl⟩
  exact ⟨_, changeG d l n f age n2 f2 ps cage over, [0, 1, 2, 3, 4, 5, 6, 7, 8], rfl, ⟨rfl, rfl, rfl, rfl, rfl, rfl, rfl, rfl, rfl, trivial⟩, rfl, ⟨A, m, cap, rfl, hb⟩, hle', rfl⟩
end Go.Kx.Ka
namespace Go.Kx.Ka
open Go.Proofs Go.Kx Go.RowKit Go.Kx.Wl Go.Kx.Dk Go.Kx.Cr Go.Kx.Wa Go.Kx.Kv
set_option maxRecDepth 20000
set_option linter.unusedSimpArgs false
def storeBk (k age : Nat) : SB := .box 158 [.ptr 2 0, .self k, .val (.int .i64 age)]
def commitG (d : Dk) (l : Lg) (n : Nat) (f : Value → Option Value) (age n2 : Nat) (f2 : Value → Option Value) (ps : List (Stp × Value)) (cage : Nat) : List SB :=
 [dataB d, diskB d, logBk 9 l, .dead, .map .string n f, storeBk 6 age, .map .string n2 f2, changeB 8 cage true, stepsB ps, recsB l]
theorem commit0 (d : Dk) (l : Lg) (n : Nat) (f : Value → Option Value) (age n2 : Nat) (f2 : Value → Option Value) (H : Hp) :
  CallO Tryz.prog 50 [cP] H (changeG d l n f age n2 f2 [] age false) fun e H' G' => e = .ret (pv (.int .i64 0)) ∧ H' = H ∧ G' = changeG d l n f age n2 f2 [] age true := by
 refine CallO.of_body tab Tryz.func50 rfl (nt := Tryz.f50.ntmps) rfl (by kernel_rfl) ?_
 (conv => whnf)
 refine WS.draw tab mixed (.take 0 (.take 1 (.take 2 (.take 3 (.take 4 (.take 5 (.take 6 (.take 7 (.take 8 (.take 9 (.take 10 (.take 11 (.take 12 (.take 13 (.take 14 (.take 15 .done)))))))))))))))) (by kernel_rfl) [] ?_
 (conv => whnf)
 have e1 : (((age : Nat) : Int) != ((age : Nat) : Int)) = false := by simp
 rw [e1]
 (conv => whnf)
 exact ⟨rfl, rfl, rfl⟩
theorem commit_ (d : Dk) (l : Lg) (hd : Fine d) (hl : l.dead = false) (hh : l.half ≤ 1) (hg : l.gen < 4294967296) (hnr : l.nr ≤ 1000000) (n : Nat) (f : Value → Option Value) (age n2 : Nat) (f2 : Value → Option Value) (ps : List (Stp × Value)) (hps : ps.length ≤ 64) (h0 : ps ≠ []) (hr : ∀ q ∈ ps, RightSt q.1)
  (h2 : (recS (ps.map (·.1))).length ≤ 65536) (hf : l.fin + (9 + (recS (ps.map (·.1))).length) ≤ d.bs.length / 2) (hage : age ≤ 1000000000) (H : Hp) (hok : StsOk H ps) :
  CallO Tryz.prog 50 [cP] H (changeG d l n f age n2 f2 ps age false) fun e H' G' => e = .ret (pv (.int .i64 0)) ∧ H.Le H' ∧ ∃ wr xs, G' = commitG (Dk.put d (addB d.bs l.half l.gen l.fin (recS (ps.map (·.1)))) wr) { l with fin := l.fin + (9 + (recS (ps.map (·.1))).length), nr := l.nr + 1, xs := xs } n f (age + 1) n2 f2 ps age := by
 have hrc := record_ d l n f age n2 f2 ps hps hr age true H hok
 have hap := fun A m cap H (hb : SlAt H A m cap (recS (ps.map (·.1)))) (h1 : 1 ≤ m) => append_ d l hd hl hh hg hnr A m cap _ h1 (by rw [hb.len]; exact h2) (by rw [hb.len]; exact hf) H hb
 have hpos : 1 ≤ (recS (ps.map (·.1))).length := by
  have := steps_len (ps.map (·.1))
  have h3 := List.length_pos_iff.2 h0
  rw [List.length_map] at this
  omega
 generalize recS (ps.map (·.1)) = R at *
 refine CallO.of_body tab Tryz.func50 rfl (nt := Tryz.f50.ntmps) rfl (by kernel_rfl) ?_
 (conv => whnf)
 refine WS.draw tab mixed (.take 0 (.take 1 (.take 2 (.take 3 (.take 4 (.take 5 (.take 6 (.take 7 (.take 8 (.take 9 (.take 10 (.take 11 (.take 12 (.take 13 (.take 14 (.take 15 .done)))))))))))))))) (by kernel_rfl) [] ?_
 (conv => whnf)
 have e1 : (((age : Nat) : Int) != ((age : Nat) : Int)) = false := by simp
 rw [e1]
 (conv => whnf)
 have e2 : (((ps.length : Nat) : Int) == 0) = false := by have := List.length_pos_iff.2 h0; simp; exact h0
 rw [e2]
 (conv => whnf)
 refine ⟨⟨_, Tryz.func97, rfl, by kernel_rfl⟩, CallS.use hrc [0, 1, 2, 3, 4, 5, 6, 7, 8] rfl rfl ⟨rfl, rfl, rfl, rfl, rfl, rfl, rfl, rfl, rfl, trivial⟩ ?_⟩
 rintro e H2 G' hle2 ⟨⟨A, m, cap, rfl, hb⟩, hle2', rfl⟩
 have hm := hb.len
 (conv => whnf)
 refine br.of (fun h => absurd (of_decide_eq_true h) (by omega)) (fun h => ?_)
 (conv => whnf)
 refine ⟨⟨_, Tryz.func98, rfl, by kernel_rfl⟩, CallS.use (hap A m cap H2 hb (by omega)) [0, 1, 2, 3] rfl rfl ⟨rfl, rfl, rfl, rfl, trivial⟩ ?_⟩
 rintro e H3 G' hle3 ⟨rfl, hle3', wr, xs, rfl⟩
 (conv => whnf)
 rw [wrap64 (x := (age : Int) + 1) (by omega) (by omega)]
 refine ⟨rfl, hle2.trans hle3, wr, xs, ?_⟩
 rw [← hm]
 rfl
end Go.Kx.Ka
namespace Go.Proofs
open Go.Shelf
def Tryz.laysCount_ren : Go.Shelf.Ren := ⟨fun | 138 => 339 | 195 => 365 | 218 => 366 | 143 => 341 | 219 => 368 | 217 => 252 | 225 => 380 | 224 => 379 | 267 => 392 | 266 => 305 | 314 => 399 | n => n, fun | 9 => 9 | 3 => 3 | 4 => 4 | 5 => 5 | 0 => 0 | 46 => 284 | 146 => 444 | 51 => 279 | n => n, fun | 1 => 3 | n => n⟩
theorem Tryz.laysCount : Go.Proofs.Lays.n138 Tryz.prog Tryz.laysCount_ren where
 mixed := by kernel_rfl
 f138 := Tryz.func339.trans (congrArg some (by kernel_rfl))
 f143 := Tryz.func341.trans (congrArg some (by kernel_rfl))
 f195 := Tryz.func365.trans (congrArg some (by kernel_rfl))
 f217 := Tryz.func252.trans (congrArg some (by kernel_rfl))
 f218 := Tryz.func366.trans (congrArg some (by kernel_rfl))
 f219 := Tryz.func368.trans (congrArg some (by kernel_rfl))
 f224 := Tryz.func379.trans (congrArg some (by kernel_rfl))
 f225 := Tryz.func380.trans (congrArg some (by kernel_rfl))
 f266 := Tryz.func305.trans (congrArg some (by kernel_rfl))
 f267 := Tryz.func392.trans (congrArg some (by kernel_rfl))
 f314 := Tryz.func399.trans (congrArg some (by kernel_rfl))
 t0 := Tryz.underlying0
 a0 := Tryz.isAgg0
 z0 := Tryz.sizeOf0
 v0 := Tryz.zeroValue0
 t3 := Tryz.underlying3
 a3 := Tryz.isAgg3
 z3 := Tryz.sizeOf3
 v3 := Tryz.zeroValue3
 t4 := Tryz.underlying4
 a4 := Tryz.isAgg4
 z4 := Tryz.sizeOf4
 v4 := Tryz.zeroValue4
 t5 := Tryz.underlying5
 a5 := Tryz.isAgg5
 z5 := Tryz.sizeOf5
 v5 := Tryz.zeroValue5
 t9 := Tryz.underlying9
 a9 := Tryz.isAgg9
 z9 := Tryz.sizeOf9
 v9 := Tryz.zeroValue9
 t46 := Tryz.underlying284
 a46 := Tryz.isAgg284
 z46 := Tryz.sizeOf284
 v46 := Tryz.zeroValue284
 t51 := Tryz.underlying279
 a51 := Tryz.isAgg279
 z51 := Tryz.sizeOf279
 v51 := Tryz.zeroValue279
 t146 := Tryz.underlying444
 a146 := Tryz.isAgg444
 z146 := Tryz.sizeOf444
 v146 := Tryz.zeroValue444
 g1 := by kernel_rfl
def Tryz.laysIndex_ren : Go.Shelf.Ren := ⟨fun | 143 => 341 | 219 => 368 | 217 => 252 | 225 => 380 | 224 => 379 | 267 => 392 | 266 => 305 | 314 => 399 | n => n, fun | 9 => 9 | 3 => 3 | 4 => 4 | 5 => 5 | 46 => 284 | 146 => 444 | 51 => 279 | n => n, fun | 1 => 3 | n => n⟩
theorem Tryz.laysIndex : Go.Proofs.Lays.n143 Tryz.prog Tryz.laysIndex_ren where
 mixed := by kernel_rfl
 f143 := Tryz.func341.trans (congrArg some (by kernel_rfl))
 f217 := Tryz.func252.trans (congrArg some (by kernel_rfl))
 f219 := Tryz.func368.trans (congrArg some (by kernel_rfl))
 f224 := Tryz.func379.trans (congrArg some (by kernel_rfl))
 f225 := Tryz.func380.trans (congrArg some (by kernel_rfl))
 f266 := Tryz.func305.trans (congrArg some (by kernel_rfl))
 f267 := Tryz.func392.trans (congrArg some (by kernel_rfl))
 f314 := Tryz.func399.trans (congrArg some (by kernel_rfl))
 t3 := Tryz.underlying3
 a3 := Tryz.isAgg3
 z3 := Tryz.sizeOf3
 v3 := Tryz.zeroValue3
 t4 := Tryz.underlying4
 a4 := Tryz.isAgg4
 z4 := Tryz.sizeOf4
 v4 := Tryz.zeroValue4
 t5 := Tryz.underlying5
 a5 := Tryz.isAgg5
 z5 := Tryz.sizeOf5
 v5 := Tryz.zeroValue5
 t9 := Tryz.underlying9
 a9 := Tryz.isAgg9
 z9 := Tryz.sizeOf9
 v9 := Tryz.zeroValue9
 t46 := Tryz.underlying284
 a46 := Tryz.isAgg284
 z46 := Tryz.sizeOf284
 v46 := Tryz.zeroValue284
 t51 := Tryz.underlying279
 a51 := Tryz.isAgg279
 z51 := Tryz.sizeOf279
 v51 := Tryz.zeroValue279
 t146 := Tryz.underlying444
 a146 := Tryz.isAgg444
 z146 := Tryz.sizeOf444
 v146 := Tryz.zeroValue444
 g1 := by kernel_rfl
def Tryz.laysTrim_ren : Go.Shelf.Ren := ⟨fun | 160 => 173 | 232 => 242 | 231 => 241 | 227 => 243 | 234 => 245 | 233 => 244 | 236 => 247 | 235 => 246 | 228 => 301 | 271 => 304 | 151 => 303 | 197 => 302 | 120 => 347 | 152 => 346 | 260 => 345 | 137 => 189 | 119 => 378 | 224 => 379 | 225 => 380 | 217 => 252 | 266 => 305 | n => n, fun | 9 => 9 | 4 => 4 | 3 => 3 | 5 => 5 | 117 => 317 | 116 => 316 | 0 => 0 | 124 => 320 | 21 => 21 | 105 => 375 | 46 => 284 | 119 => 424 | 139 => 427 | 138 => 426 | n => n, fun | 3 => 4 | 4 => 5 | n => n⟩
theorem Tryz.laysTrim : Go.Proofs.Lays.n160 Tryz.prog Tryz.laysTrim_ren where
 mixed := by kernel_rfl
 f119 := Tryz.func378.trans (congrArg some (by kernel_rfl))
 f120 := Tryz.func347.trans (congrArg some (by kernel_rfl))
 f137 := Tryz.func189.trans (congrArg some (by kernel_rfl))
 f151 := Tryz.func303.trans (congrArg some (by kernel_rfl))
 f152 := Tryz.func346.trans (congrArg some (by kernel_rfl))
 f160 := Tryz.func173.trans (congrArg some (by kernel_rfl))
 f197 := Tryz.func302.trans (congrArg some (by kernel_rfl))
 f217 := Tryz.func252.trans (congrArg some (by kernel_rfl))
 f224 := Tryz.func379.trans (congrArg some (by kernel_rfl))
 f225 := Tryz.func380.trans (congrArg some (by kernel_rfl))
 f227 := Tryz.func243.trans (congrArg some (by kernel_rfl))
 f228 := Tryz.func301.trans (congrArg some (by kernel_rfl))
 f231 := Tryz.func241.trans (congrArg some (by kernel_rfl))
 f232 := Tryz.func242.trans (congrArg some (by kernel_rfl))
 f233 := Tryz.func244.trans (congrArg some (by kernel_rfl))
 f234 := Tryz.func245.trans (congrArg some (by kernel_rfl))
 f235 := Tryz.func246.trans (congrArg some (by kernel_rfl))
 f236 := Tryz.func247.trans (congrArg some (by kernel_rfl))
 f260 := Tryz.func345.trans (congrArg some (by kernel_rfl))
 f266 := Tryz.func305.trans (congrArg some (by kernel_rfl))
 f271 := Tryz.func304.trans (congrArg some (by kernel_rfl))
 t0 := Tryz.underlying0
 a0 := Tryz.isAgg0
 z0 := Tryz.sizeOf0
 v0 := Tryz.zeroValue0
 t3 := Tryz.underlying3
 a3 := Tryz.isAgg3
 z3 := Tryz.sizeOf3
 v3 := Tryz.zeroValue3
 t4 := Tryz.underlying4
 a4 := Tryz.isAgg4
 z4 := Tryz.sizeOf4
 v4 := Tryz.zeroValue4
 t5 := Tryz.underlying5
 a5 := Tryz.isAgg5
 z5 := Tryz.sizeOf5
 v5 := Tryz.zeroValue5
 t9 := Tryz.underlying9
 a9 := Tryz.isAgg9
 z9 := Tryz.sizeOf9
 v9 := Tryz.zeroValue9
 t21 := Tryz.underlying21
 a21 := Tryz.isAgg21
 z21 := Tryz.sizeOf21
 v21 := Tryz.zeroValue21
 t46 := Tryz.underlying284
 a46 := Tryz.isAgg284
 z46 := Tryz.sizeOf284
 v46 := Tryz.zeroValue284
 t105 := Tryz.underlying375
 a105 := Tryz.isAgg375
 z105 := Tryz.sizeOf375
 v105 := Tryz.zeroValue375
 t116 := Tryz.underlying316
 a116 := Tryz.isAgg316
 z116 := Tryz.sizeOf316
 t117 := Tryz.underlying317
 a117 := Tryz.isAgg317
 z117 := Tryz.sizeOf317
 v117 := Tryz.zeroValue317
 t119 := Tryz.underlying424
 a119 := Tryz.isAgg424
 z119 := Tryz.sizeOf424
 t124 := Tryz.underlying320
 a124 := Tryz.isAgg320
 z124 := Tryz.sizeOf320
 v124 := Tryz.zeroValue320
 t138 := Tryz.underlying426
 a138 := Tryz.isAgg426
 z138 := Tryz.sizeOf426
 v138 := Tryz.zeroValue426
 t139 := Tryz.underlying427
 a139 := Tryz.isAgg427
 z139 := Tryz.sizeOf427
 v139 := Tryz.zeroValue427
 g3 := by kernel_rfl
 g4 := by kernel_rfl

end Go.Proofs
namespace Go.Kx.Tu
set_option linter.unusedSimpArgs false
def esc : List UInt8 → List UInt8
 | [] => []
 | c :: r => if c = 0 then 0 :: 255 :: esc r else c :: esc r
def textB (s : List UInt8) : List UInt8 := 1 :: (esc s ++ [0, 0])
theorem esc_inj : ∀ {a b r s : List UInt8}, esc a ++ 0 :: 0 :: r = esc b ++ 0 :: 0 :: s → a = b ∧ r = s
 | [], [], r, s, h => by
  simp only [esc, List.nil_append, List.cons.injEq, true_and] at h
  exact ⟨rfl, h⟩
 | [], c :: b, r, s, h => by
  unfold esc at h
  split at h
  ·simp only [esc, List.nil_append, List.cons_append, List.cons.injEq] at h
   exact absurd h.2.1 (by decide)
  ·rename_i hc
   simp only [esc, List.nil_append, List.cons_append, List.cons.injEq] at h
   exact absurd h.1.symm hc
 | c :: a, [], r, s, h => by
  have h := h.symm
  unfold esc at h
  split at h
  ·simp only [esc, List.nil_append, List.cons_append, List.cons.injEq] at h
   exact absurd h.2.1 (by decide)
  ·rename_i hc
   simp only [esc, List.nil_append, List.cons_append, List.cons.injEq] at h
   exact absurd h.1.symm hc
 | c :: a, d :: b, r, s, h => by
  unfold esc at h
  split at h
  ·rename_i hc
   subst hc
   split at h
   ·rename_i hd
    subst hd
    simp only [List.cons_append, List.cons.injEq, true_and] at h
    obtain ⟨rfl, h2⟩ := esc_inj h
    exact ⟨rfl, h2⟩
   ·rename_i hd
    simp only [List.cons_append, List.cons.injEq] at h
    exact absurd h.1.symm hd
  ·rename_i hc
   split at h
   ·rename_i hd
    simp only [List.cons_append, List.cons.injEq] at h
    exact absurd h.1 hc
   ·simp only [List.cons_append, List.cons.injEq] at h
    obtain ⟨rfl, h2⟩ := h
    obtain ⟨rfl, h3⟩ := esc_inj h2
    exact ⟨rfl, h3⟩
theorem text_inj {a b r s : List UInt8} (h : textB a ++ r = textB b ++ s) : a = b ∧ r = s := by
 unfold textB at h
 simp only [List.cons_append, List.append_assoc, List.nil_append, List.cons.injEq, true_and] at h
 exact esc_inj h
theorem esc_len : ∀ s : List UInt8, (esc s).length ≤ 2 * s.length
 | [] => by simp [esc]
 | c :: r => by
  have := esc_len r
  unfold esc
  split <;> simp <;> omega
theorem esc_plain : ∀ {s : List UInt8}, (∀ c ∈ s, c ≠ 0) → esc s = s
 | [], _ => rfl
 | c :: r, h => by
  unfold esc
  rw [if_neg (h c List.mem_cons_self), esc_plain fun d hd => h d (List.mem_cons_of_mem _ hd)]
def be8 (n : Nat) : List UInt8 := [UInt8.ofNat (n / 72057594037927936), UInt8.ofNat (n / 281474976710656), UInt8.ofNat (n / 1099511627776), UInt8.ofNat (n / 4294967296), UInt8.ofNat (n / 16777216), UInt8.ofNat (n / 65536), UInt8.ofNat (n / 256), UInt8.ofNat n]
def numB (n : Nat) : List UInt8 := 2 :: be8 n
theorem be8_inj {a b : Nat} (ha : a < 18446744073709551616) (hb : b < 18446744073709551616) (h : be8 a = be8 b) : a = b := by
 unfold be8 at h
 simp only [List.cons.injEq, and_true] at h
 obtain ⟨h1, h2, h3, h4, h5, h6, h7, h8⟩ := h
 have e := fun (x y : Nat) (h : UInt8.ofNat x = UInt8.ofNat y) => congrArg UInt8.toNat h
 have h1 := e _ _ h1
 have h2 := e _ _ h2
 have h3 := e _ _ h3
 have h4 := e _ _ h4
 have h5 := e _ _ h5
 have h6 := e _ _ h6
 have h7 := e _ _ h7
 have h8 := e _ _ h8
 simp only [UInt8.toNat_ofNat'] at h1 h2 h3 h4 h5 h6 h7 h8
 omega
theorem num_inj {a b : Nat} {r s : List UInt8} (ha : a < 18446744073709551616) (hb : b < 18446744073709551616) (h : numB a ++ r = numB b ++ s) : a = b ∧ r = s := by
 have h1 := congrArg (List.take 9) h
 have h2 := congrArg (List.drop 9) h
 have e1 : (numB a ++ r).take 9 = numB a := rfl
 have e2 : (numB b ++ s).take 9 = numB b := rfl
 rw [e1, e2] at h1
 unfold numB at h1
 simp only [List.cons.injEq, true_and] at h1
 exact ⟨be8_inj ha hb h1, h2⟩
theorem text_num {a r s : List UInt8} {n : Nat} : textB a ++ r ≠ numB n ++ s := by
 intro h
 unfold textB numB at h
 simp only [List.cons_append, List.cons.injEq] at h
 exact absurd h.1 (by decide)
end Go.Kx.Tu
namespace Go.Kx.Bu
open Go.Proofs Go.Kx Go.RowKit
def grewW (w : World) (b : Nat) (cs : Array Value) : World := ((w.setCell ⟨b, 1, none⟩ (.slice (some ⟨w.heap.size, 0, none⟩) 0 cs.size)).alloc (.cells cs 5)).drew.drew.drew
theorem sizeU8 : (Tryz.prog.info? 5).map (·.size) = some 1 := by kernel_rfl
set_option maxHeartbeats 2000000 in
set_option maxRecDepth 1000000 in
theorem grow_w (b n : Nat) (w : World) (hbk : w.heap[b]? = some (.cells #[.pointer (some ⟨b, 0, none⟩), .slice none 0 0] 242 (0, 0))) (hn : n ≤ 281474976710656) :
  Calls Tryz.prog 367 #[.pointer (some ⟨b, 0, none⟩), .int .i64 n] w fun e w' => ∃ cs : Array Value, cs.size ≤ maxLen ∧ e = .returned (.tuple #[]) ∧ w' = grewW w b cs := by
 obtain ⟨cs, hrun, hle, hmax⟩ := Lib.run_makeNoZero (P := Tryz.prog) w.drew #[3] 94 5 Tryz.underlying94 n hn
 have hw : IntKind.i64.wrap (IntKind.i64.wrap 0 + (n : Int)) = n := by
  rw [IntKind.wrap_i64, IntKind.wrap_i64]
  omega
 have hcall : (callFunc 391 #[.int .i64 (IntKind.i64.wrap (IntKind.i64.wrap 0 + (n : Int)))]).run Tryz.prog w.drew = .ok (.value (.slice (some ⟨w.drew.heap.size, 0, none⟩) n cs.size)) (w.drew.drew.drew.alloc (.cells cs 5)) := by
  rw [hw, run_callFunc_extern Tryz.func391 (by kernel_rfl) (by kernel_rfl) (by kernel_rfl) (e := Extern.BytealgMakeNoZero.makeNoZero #[3] #[94]) (by kernel_rfl), hrun]
  rfl
 have c1 : w.drew.cell? ⟨b, 1, none⟩ = some (.slice none 0 0) := by
  have : w.drew.heap[b]? = _ := hbk
  rw [Lib.cell_of_heap this]; rfl
 have hlt : b < w.heap.size := by
  rcases Nat.lt_or_ge b w.heap.size with h' | h'
  ·exact h'
  ·simp [Array.getElem?_eq_none h'] at hbk
 have c2 : (w.alloc (.cells cs 5)).cell? ⟨b, 1, none⟩ = some (.slice none 0 0) := by
  have : (w.alloc (.cells cs 5)).heap[b]? = _ := (Lib.alloc_old w _ b hlt).trans hbk
  rw [Lib.cell_of_heap this]; rfl
 have f2 : (w.alloc (.cells cs 5)).frozen? ⟨b, 1, none⟩ = false := Lib.frozen_of_heap ((Lib.alloc_old w _ b hlt).trans hbk) 1
 have hcopy : ∀ W : World, (Builtin.copy_ #[94, 94] 3 #[.slice (some ⟨w.heap.size, 0, none⟩) 0 cs.size, .slice none 0 0]).run Tryz.prog W = .ok (goInt 0) W :=
  fun W => run_copy_none W 94 94 3 5 _ _ 0 cs.size 0 0 Tryz.underlying94 sizeU8 rfl
 clear hw
 have hfin : cs.size ≤ maxLen := hmax (by unfold maxLen; omega)
 go_enter Tryz.func367, Tryz.ntmps367
 go_wp2
 go_region
 all_goals (go_wp2; go_end0; exact ⟨cs, hfin, rfl, rfl⟩)
end Go.Kx.Bu
