/- The statements of layer 13: their anchor. No condition of its own. -/
import Derived.Test.YtfchdibbjaeocaaGreatDoorMS17
namespace Go.Kx.L13
open Go.Proofs Go.Kx Go.RowKit Go.Kx.Js Go.Kx.Pr Go.Kx.Rt Go.Kx.Ob Go.Kx.Wo Go.Kx.Cl Go.Kx.Pa Go.Kx.Su Go.Kx.Se
set_option maxRecDepth 20000
set_option linter.unusedSimpArgs false
def T : Tab := [(25, { k := TK.st [(0, 9, 1), (1, 9, 1), (2, 9, 1), (3, 3, 1), (4, 9, 1), (5, 23, 3), (8, 3, 1), (9, 9, 1)], agg := true, size := 10, bytes := 144, zero := [Z.s, Z.s, Z.s, Z.i IntKind.i64, Z.s, Z.s, Z.s, Z.s, Z.i IntKind.i64, Z.s] }), (34, { k := TK.st [(0, 3, 1), (1, 4, 1), (2, 9, 1), (3, 31, 1), (4, 32, 1)], agg := true, size := 5, bytes := 80, zero := [Z.i IntKind.i64, Z.b, Z.s, Z.sl, Z.sl] }), (52, { k := TK.st [(0, 9, 1), (1, 34, 5)], agg := true, size := 6, bytes := 96, zero := [Z.s, Z.i IntKind.i64, Z.b, Z.s, Z.sl, Z.sl] }), (5, { k := TK.int IntKind.u8, agg := false, size := 1, bytes := 1, zero := [Z.i IntKind.u8] }), (9, { k := TK.string, agg := false, size := 1, bytes := 16, zero := [Z.s] }), (23, { k := TK.st [(0, 9, 1), (1, 9, 1), (2, 9, 1)], agg := true, size := 3, bytes := 48, zero := [Z.s, Z.s, Z.s] }), (3, { k := TK.int IntKind.i64, agg := false, size := 1, bytes := 8, zero := [Z.i IntKind.i64] }), (4, { k := TK.bool, agg := false, size := 1, bytes := 1, zero := [Z.b] }), (69, { k := TK.slice 9, agg := false, size := 1, bytes := 24, zero := [Z.sl] }), (55, { k := TK.slice 5, agg := false, size := 1, bytes := 24, zero := [Z.sl] }), (35, { k := TK.int IntKind.i64, agg := false, size := 1, bytes := 8, zero := [Z.i IntKind.i64] }), (28, { k := TK.st [(0, 9, 1), (1, 9, 1), (2, 9, 1), (3, 3, 1), (4, 9, 1), (5, 9, 1), (6, 9, 1), (7, 9, 1), (8, 3, 1), (9, 9, 1)], agg := true, size := 10, bytes := 144, zero := [Z.s, Z.s, Z.s, Z.i IntKind.i64, Z.s, Z.s, Z.s, Z.s, Z.i IntKind.i64, Z.s] }), (31, { k := TK.slice 34, agg := false, size := 1, bytes := 24, zero := [Z.sl] }), (32, { k := TK.slice 52, agg := false, size := 1, bytes := 24, zero := [Z.sl] })]
set_option maxRecDepth 100000 in
theorem tab : TabOk Tryz.prog T := tabOk_mk (ts := [25, 34, 52, 5, 9, 23, 3, 4, 69, 55, 35, 28, 31, 32]) (by kernel_rfl)
theorem mixed : Tryz.prog.follows .mixedOrders = true := by kernel_rfl
def smpC : Clm := ⟨⟨#[105]⟩, ⟨#[106]⟩, ⟨#[97]⟩, 5, ⟨#[116]⟩, ⟨sOpaque, ⟨#[117]⟩, ⟨#[]⟩⟩, 3, ⟨#[]⟩⟩
def keyL : List UInt8 := ([48, 49, 50, 51, 52, 53, 54, 55, 56, 57, 97, 98, 99, 100, 101, 102] : List UInt8)
theorem smp_right : clRight smpC = true := by decide +kernel
theorem smp_sign : ∃ s, csignP smpC ⟨#[107, 49]⟩ keyL = (s, 0) := by
  unfold csignP
  rw [smp_right, if_neg (by decide)]
  unfold Jw.signP
  have h1 : (Wo.wordP 40 ⟨#[107, 49]⟩ && Wo.wordP 40 sType) = true := by decide +kernel
  rw [h1, if_neg (by decide), if_neg (by have := cl_wrl ((right_iff _).1 smp_right); omega), if_neg (by decide)]
  exact ⟨_, rfl⟩
theorem sign_size {kid typ : ByteArray} {pl key : List UInt8} {s : ByteArray} {x : Int} (h : Jw.signP kid typ pl key = (s, x)) : s.size ≤ 49152 := by
  unfold Jw.signP at h
  split at h
  · injection h with h; rw [← h]; decide
  split at h
  · injection h with h; rw [← h]; decide
  split at h
  · injection h with h; rw [← h]; decide
  rename_i h1 h2 h3
  injection h with h
  simp only [Bool.not_eq_false, Bool.and_eq_true] at h1
  have l1 := Jw.encP_len _ (wrJ (Jw.headJ kid typ)) (Nat.lt_succ_self _)
  have l2 := Jw.encP_len _ pl (Nat.lt_succ_self _)
  have l3 := Jw.encP_len _ (Sha.hmac key (Jw.signedP kid typ pl)) (Nat.lt_succ_self _)
  have l4 : (Sha.hmac key (Jw.signedP kid typ pl)).length = 32 := Sha.sha_length _
  have l5 := Jw.head_len h1.1 h1.2
  have lsg : (Jw.signedP kid typ pl).length = (En.encP (wrJ (Jw.headJ kid typ))).length + ((En.encP pl).length + 1) := by unfold Jw.signedP; rw [List.length_append, List.length_cons]
  rw [← h, Jw.bs_size]
  unfold Jw.tokenP
  rw [List.length_append, List.length_cons]
  omega
theorem csign_size {c : Clm} {kid : ByteArray} {key : List UInt8} {s : ByteArray} {x : Int} (h : csignP c kid key = (s, x)) : s.size ≤ 49152 := by
  unfold csignP at h
  split at h
  · injection h with h; rw [← h]; decide
  · exact sign_size h
def cellsC (c : Clm) : List Value := [.string c.iss, .string c.jti, .string c.aud, .int .i64 c.iat, .string c.txn, .string c.sub.fmt, .string c.sub.id, .string c.sub.own, .int .i64 c.kind, .string c.reason]
def ksC : List CK := [.s, .s, .s, .i .i64, .s, .s, .s, .s, .i .i64, .s]
structure FitC (c : Clm) : Prop where
  a : c.iss.size ≤ maxLen
  b : c.jti.size ≤ maxLen
  c' : c.aud.size ≤ maxLen
  n : (Lit.int .i64 c.iat).wf = true
  t : c.txn.size ≤ maxLen
  f : c.sub.fmt.size ≤ maxLen
  i : c.sub.id.size ≤ maxLen
  o : c.sub.own.size ≤ maxLen
  k : (Lit.int .i64 c.kind).wf = true
  r : c.reason.size ≤ maxLen
theorem FitC.lits {c : Clm} (h : FitC c) : (litsK ksC (cellsC c)).isSome = true := by
  unfold ksC cellsC
  simp only [litsK, ckLit, if_pos h.a, if_pos h.b, if_pos h.c', h.n, if_pos h.t, if_pos h.f, if_pos h.i, if_pos h.o, h.k, if_pos h.r, Option.bind_some, Option.map_some, and_self, if_true, Option.isSome_some]
theorem cellsC_inj {c d : Clm} : cellsC c = cellsC d ↔ c = d := by
  constructor
  · intro h
    obtain ⟨a, b, c', n, t, ⟨f, i, o⟩, k, r⟩ := c
    obtain ⟨a2, b2, c2, n2, t2, ⟨f2, i2, o2⟩, k2, r2⟩ := d
    simp only [cellsC, List.cons.injEq, Value.string.injEq, Value.int.injEq, true_and, and_true] at h
    obtain ⟨rfl, rfl, rfl, rfl, rfl, rfl, rfl, rfl, rfl, rfl⟩ := h
    rfl
  · rintro rfl; rfl
theorem gC : Tryz.prog.eqGuardType Tryz.prog.depth 25 = false := by kernel_rfl
theorem kC : Tryz.prog.keyTypeAt 8 25 = true := by kernel_rfl
theorem sC : shapeK Tryz.prog 8 25 = some ksC := by kernel_rfl
theorem fC (c : Clm) : (Value.agg (cellsC c).toArray).formed Tryz.prog 25 = true := by kernel_rfl
theorem smp_fit : FitC smpC := ⟨by decide, by decide, by decide, by decide, by decide, by decide, by decide, by decide, by decide, by decide⟩
theorem sample_ (H : Hp) : CallO Tryz.prog 45 [] H [] fun e H' G' => e = .ret (.si (.ag (csC smpC))) ∧ H' = H ∧ G' = [] := by
  refine CallO.of_body tab Tryz.func45 rfl (nt := Tryz.f45.ntmps) rfl (by kernel_rfl) ?_
  (conv => whnf)
  exact ⟨rfl, rfl, rfl⟩
theorem anchor_ (H : Hp) (hE : ErrH H) : CallO Tryz.prog 12 [] H [] fun e H' G' => e = .ret (pv (.bool true)) ∧ H.Le H' ∧ G' = [] := by
  obtain ⟨tok, hsg⟩ := smp_sign
  have hrd := sign_read hsg
  refine CallO.of_body tab Tryz.func12 rfl (nt := Tryz.f12.ntmps) rfl (by kernel_rfl) ?_
  (conv => whnf)
  refine ⟨⟨_, Tryz.func28, rfl, by kernel_rfl⟩, CallS.use (name_ 3 (by decide) (by decide) H) [] rfl rfl trivial ?_⟩
  rintro e H1 G' hle1 ⟨rfl, hle1', rfl⟩
  (conv => whnf)
  refine ⟨by decide, .inr ?_⟩
  refine ⟨rfl, ?_⟩
  (conv => whnf)
  change LO _ _ _ _ _ _ _
  refine LO.convOwn (t := 55) (e := 5) (et := 5) (x := .tmp 12) (n := 16) (xs := bCells keyL) ?_ 0 ?_ ?_ (by decide) (by kernel_rfl) (by kernel_rfl) ?_
  · rfl
  · rfl
  · rfl
  intro g c2 H2 hle2 hkr
  (conv => whnf)
  have hkb : BytesAt H2 (some g) 16 keyL := .lit rfl hkr
  refine ⟨⟨_, Tryz.func45, rfl, by kernel_rfl⟩, CallS.use (sample_ H2) [] rfl rfl trivial ?_⟩
  rintro e H3 G' hle3 ⟨rfl, rfl, rfl⟩
  (conv => whnf)
  have hs := sign_ smpC ⟨by decide, by decide⟩ ⟨#[107, 49]⟩ keyL (some g) c2 (by decide) H3 hkb
  rw [hsg] at hs
  refine ⟨⟨_, Tryz.func24, rfl, by kernel_rfl⟩, CallS.use hs [] rfl rfl trivial ?_⟩
  rintro e H4 G' hle4 ⟨rfl, hle4', rfl⟩
  (conv => whnf)
  have hr := read_ tok (by have := csign_size hsg; omega) keyL (some g) 16 c2 (by decide) H4 (hE.mono ((hle1.trans hle2).trans hle4)) (hkb.mono hle4)
  rw [hrd] at hr
  refine ⟨⟨_, Tryz.func26, rfl, by kernel_rfl⟩, CallS.use hr [] rfl rfl trivial ?_⟩
  rintro e H5 G' hle5 ⟨rfl, hle5', rfl⟩
  (conv => whnf)
  refine WS.draw tab mixed (.take 0 (.take 1 (.take 2 (.take 3 (.take 4 (.take 5 (.take 6 (.take 7 (.take 8 (.take 9 (.take 10 (.take 11 (.take 12 (.take 13 (.take 14 (.alt 15 (.take 16 (.take 17 (.take 18 .done))) .no)))))))))))))))) (by kernel_rfl) [] ?_
  (conv => whnf)
  refine And.intro ?_ ?_ <;> (conv => whnf)
  rotate_left
  · exact trivial
  refine ⟨⟨_, Tryz.func45, rfl, by kernel_rfl⟩, CallS.use (sample_ H5) [] rfl rfl trivial ?_⟩
  rintro e H6 G' hle6 ⟨rfl, rfl, rfl⟩
  (conv => whnf)
  refine ⟨⟨trivial, rfl, trivial⟩, ?_⟩
  (conv => whnf)
  change QO _ _ _ _ _ _
  refine QO.agg (t := 25) (ty := 25) (op := .eql) (x := .tmp 40) (y := .tmp 41) ?_ (cellsC smpC) (cellsC smpC) ksC ?_ ?_ gC kC sC (fC _) (fC _) smp_fit.lits smp_fit.lits ?_
  · rfl
  · rfl
  · rfl
  intro r hr
  obtain rfl : r = true := hr.2 rfl
  refine .inl ⟨rfl, ?_⟩
  (conv => whnf)
  exact ⟨rfl, ((hle1.trans hle2).trans hle4).trans hle5, rfl⟩
end Go.Kx.L13
namespace Go.Kx.Rr
open Go.Proofs Go.Kx Go.RowKit Go.Kx.Js Go.Kx.Pr Go.Kx.Rt Go.Kx.Ob Go.Kx.Wo Go.Kx.Cl Go.Kx.Su Go.Kx.Se Go.Kx.Jw Go.Kx.Ring Go.Kx.Sha
set_option maxRecDepth 20000
set_option linter.unusedSimpArgs false
theorem mixed : Tryz.prog.follows .mixedOrders = true := by kernel_rfl
theorem tab3_kid {a b c : List UInt8} {t : Tok} (h : tok3 a b c = .ok t) : Wo.wordP 40 t.kid = true := by
  unfold tok3 at h
  split at h
  · split at h
    · split at h
      · rename_i kid typ hk ht
        split at h
        · split at h
          · injection h with h
            rw [← h]
            unfold wordJ at hk
            split at hk
            · split at hk
              · rename_i hc
                injection hk with hk
                rw [← hk]; exact hc.2
              · cases hk
            · cases hk
          · cases h
        · cases h
      · cases h
    · cases h
  · cases h
theorem parts_kid {s : ByteArray} {t : Tok} (h : partsP s = .ok t) : t.kid.size ≤ 40 := by
  unfold partsP at h
  split at h
  · cases h
  split at h
  · exact (word_size (tab3_kid h)).1
  · cases h
theorem readO (s : ByteArray) (hs : s.size ≤ 1000000) (key : List UInt8) (n : Nat) (hn : n = key.length) (hn0 : 0 < n) (hm : n ≤ 1000000) (H : Hp) (hE : Ob.ErrH H) : CallO Tryz.prog 26 [pv (.string s), .si (.ce (.self 0))] H [.row 5 1 n (bCells key)] fun e H' G' => RCl (readP s key) e ∧ H.Le H' ∧ G' = [.dead] := by
  refine CallO.eat 0 (t := 5) (sz := 1) (n := n) (xs := bCells key) rfl (fun h0 => by omega) ?_
  intro x H2 hle hfr
  obtain ⟨A, cap, rfl, hb⟩ := BytesAt.of_frozen hn hfr
  refine (CallS.use (read_ s hs key A n cap hm H2 (hE.mono hle) hb) [] rfl rfl trivial ?_).to
  rintro e H' G' hle2 ⟨hr, hle3, rfl⟩
  cases hX : readP s key with
  | error x =>
    rw [hX] at hr
    obtain rfl := hr
    (conv => whnf)
    exact ⟨rfl, hle.trans hle3, rfl⟩
  | ok c =>
    rw [hX] at hr
    obtain rfl := hr
    (conv => whnf)
    exact ⟨rfl, hle.trans hle3, rfl⟩
def RingRd (ms : List UInt8) (count : Int) (s : ByteArray) (X : Except Int Clm) : Prop := match partsP s with
  | .error e => X = .error e
  | .ok t => ∃ m, NumIs count t.kid m ∧ (m = 0 → X = .error 41) ∧ (m ≠ 0 → X = readP s (hkdf ms (infoB t.kid)))
theorem ringRead (ms : List UInt8) (A : Option Addr) (n cap : Nat) (count : Int) (s : ByteArray) (hs : s.size ≤ 1000000) (H : Hp) (hE : Ob.ErrH H) (hc : 1 ≤ count) (hc2 : count ≤ 1099511627776) (hb : BytesAt H A n ms) (hn : n ≤ 1000000) :
    CallO Tryz.prog 38 [.si (.ce (.ptr 0 0)), pv (.string s)] H [ringB A n cap count] fun e H' G' => (∃ X, RingRd ms count s X ∧ RCl X e) ∧ H.Le H' ∧ G' = [ringB A n cap count] := by
  have hp := Jw.parse_ s hs
  have herr : ∀ x, partsP s = .error x → x ≠ 0 := fun x hx => by rcases parts_err hx with h | h | h <;> omega
  have hkid := fun t => parts_kid (s := s) (t := t)
  unfold RingRd
  generalize partsP s = X0 at hp herr hkid ⊢
  refine CallO.of_body Ring.Law.tab Tryz.func38 rfl (nt := Tryz.f38.ntmps) rfl (by kernel_rfl) ?_
  (conv => whnf)
  refine ⟨⟨_, Tryz.func39, rfl, by kernel_rfl⟩, CallS.use (hp H) [] rfl rfl trivial ?_⟩
  rintro e H2 G' hle2 ⟨hout, hle2', rfl⟩
  cases X0 with
  | error x =>
    have hx := herr x rfl
    obtain rfl := hout
    (conv => whnf)
    refine br.of (fun h1 => ?_) (fun h1 => ?_) <;> (conv => whnf)
    · exact ⟨⟨.error x, rfl, rfl⟩, hle2, rfl⟩
    · simp only [bne_eq_false_iff_eq] at h1
      exact absurd h1 hx
  | ok tk =>
    have hks := hkid tk rfl
    obtain ⟨A1, n1, c1, B1, m1, d1, rfl, hb1, hb2⟩ := hout
    dsimp only
    (conv => whnf)
    refine ⟨⟨_, Tryz.func83, rfl, by kernel_rfl⟩, CallS.use (key_ ms A n cap count tk.kid H2 (hE.mono hle2) hc hc2 (hb.mono hle2) hn (by omega)) [0] rfl rfl ⟨rfl, trivial⟩ ?_⟩
    rintro e H3 G' hle3 ⟨q, hq, hq0, hq1⟩
    by_cases hqz : q = 0
    · obtain ⟨rfl, rfl⟩ := hq0 hqz
      (conv => whnf)
      exact ⟨⟨.error 41, ⟨q, hq, fun _ => rfl, fun h => absurd hqz h⟩, rfl⟩, hle2.trans hle3, rfl⟩
    · obtain ⟨rfl, rfl⟩ := hq1 hqz
      (conv => whnf)
      refine ⟨⟨_, Tryz.func26, rfl, by kernel_rfl⟩, CallS.use (readO s hs (hkdf ms (infoB tk.kid)) 32 (hkdf_length _ _).symm (by decide) (by decide) H3 (hE.mono (hle2.trans hle3))) [3] rfl rfl ⟨rfl, trivial⟩ ?_⟩
      rintro e H4 G' hle4 ⟨hr, hle4', rfl⟩
      cases hX : readP s (hkdf ms (infoB tk.kid)) with
      | error x =>
        rw [hX] at hr
        obtain rfl := hr
        (conv => whnf)
        exact ⟨⟨.error x, ⟨q, hq, fun h => absurd h hqz, fun _ => rfl⟩, rfl⟩, (hle2.trans hle3).trans hle4, rfl⟩
      | ok c =>
        rw [hX] at hr
        obtain rfl := hr
        (conv => whnf)
        exact ⟨⟨.ok c, ⟨q, hq, fun h => absurd h hqz, fun _ => rfl⟩, rfl⟩, (hle2.trans hle3).trans hle4, rfl⟩
end Go.Kx.Rr
namespace Go.Kx.L13
open Go.Proofs Go.Kx Go.RowKit Go.Kx.Js Go.Kx.Pr Go.Kx.Rt Go.Kx.Ob Go.Kx.Wo Go.Kx.Cl Go.Kx.Pa Go.Kx.Su Go.Kx.Se Go.Kx.Jw
set_option maxRecDepth 20000
set_option linter.unusedSimpArgs false
theorem wf64 {n : Int} (h0 : -9223372036854775808 ≤ n) (h1 : n ≤ 9223372036854775807) : (Lit.int .i64 n).wf = true := by
  have e0 : IntKind.i64.min = -9223372036854775808 := by decide
  have e1 : IntKind.i64.max = 9223372036854775807 := by decide
  simp [Lit.wf, e0, e1, h0, h1]
theorem fit_right {c : Clm} (h : RightC c) : FitC c := by
  have hm : 256 ≤ maxLen := by decide
  have w : ∀ {s : ByteArray}, Wo.wordP 256 s = true → s.size ≤ maxLen := fun hw => Nat.le_trans (word_size hw).1 hm
  have hs : c.sub.fmt.size ≤ maxLen ∧ c.sub.id.size ≤ maxLen ∧ c.sub.own.size ≤ maxLen := by
    rcases sub_cases h.sub with ⟨id, e, h1⟩ | ⟨id, e, h1, h2⟩ | ⟨id, own, e, h1, h2⟩
    · rw [e]; exact ⟨(by decide : sOpaque.size ≤ maxLen), w h1, Nat.zero_le _⟩
    · rw [e]; exact ⟨(by decide : sEmail.size ≤ maxLen), w h1, Nat.zero_le _⟩
    · rw [e]; exact ⟨(by decide : sIssSub.size ≤ maxLen), w h1, w h2⟩
  exact ⟨w h.iss, w h.jti, w h.aud, wf64 (by have := h.iat; omega) (by have := h.iat; omega), w h.txn, hs.1, hs.2.1, hs.2.2, wf64 (by have := h.kind; omega) (by have := h.kind; omega), Nat.le_trans (reason_size h) hm⟩
theorem fit0 : FitC clm0 := ⟨by decide, by decide, by decide, by decide, by decide, by decide, by decide, by decide, by decide, by decide⟩
theorem read_right {s : ByteArray} {key : List UInt8} {c : Clm} (h : readP s key = .ok c) : RightC c := by
  unfold readP at h
  split at h
  · cases h
  split at h
  · cases h
  split at h
  · cases h
  split at h
  · cases h
  split at h
  · cases h
  · rename_i hc
    injection h with h
    subst h
    exact (of_some hc).1
def clX : Except Int Clm → Clm
  | .ok c => c
  | .error _ => clm0
def nX : Except Int Clm → Int
  | .ok _ => 0
  | .error x => x
theorem rcl {X : Except Int Clm} {e : SE} (h : RCl X e) : e = .ret (.tu [.ag (csC (clX X)), .ce (.val (.int .i64 (nX X)))]) := by
  cases X with
  | ok c => exact h
  | error x => exact h
theorem fitX {s : ByteArray} {key : List UInt8} : FitC (clX (readP s key)) := by
  cases h : readP s key with
  | ok c => exact fit_right (read_right h)
  | error x => exact fit0
theorem eqClm {o : Oper} {x y : Operand} (ho : o.op = .binOp .eql 25 x y 25) {F : Fr} {H : Hp} {G : List SB} {K : SV → Prop} (c d : Clm)
    (hx : evX x F fun sv => sv = .si (.ag ((cellsC c).map SC.val))) (hy : evX y F fun sv => sv = .si (.ag ((cellsC d).map SC.val))) (fc : FitC c) (fd : FitC d) (h : ∀ r : Bool, (r = true ↔ c = d) → K (pv (.bool r))) : QO Tryz.prog o F H G K :=
  QO.agg ho (cellsC c) (cellsC d) ksC hx hy gC kC sC (fC _) (fC _) fc.lits fd.lits fun r hr => .inl ⟨rfl, h r (hr.trans cellsC_inj)⟩
end Go.Kx.L13
namespace Go.Kx.Rr
open Go.Proofs Go.Kx Go.RowKit Go.Kx.Js Go.Kx.Pr Go.Kx.Rt Go.Kx.Ob Go.Kx.Wo Go.Kx.Cl Go.Kx.Su Go.Kx.Se Go.Kx.Jw Go.Kx.Ring Go.Kx.Sha Go.Kx.L13
set_option maxRecDepth 20000
set_option linter.unusedSimpArgs false
theorem claims_ (jti : ByteArray) (H : Hp) : CallO Tryz.prog 43 [pv (.string jti)] H [] fun e H' G' => e = .ret (.si (.ag (csC ⟨⟨#[105]⟩, jti, ⟨#[97]⟩, 5, ⟨#[116]⟩, ⟨sOpaque, ⟨#[117]⟩, ⟨#[]⟩⟩, 1, ⟨#[]⟩⟩))) ∧ H' = H ∧ G' = [] := by
  refine CallO.of_body Ring.Law.tab Tryz.func43 rfl (nt := Tryz.f43.ntmps) rfl (by kernel_rfl) ?_
  (conv => whnf)
  exact ⟨rfl, rfl, rfl⟩
theorem keyO (ms : List UInt8) (n : Nat) (kid : ByteArray) (H : Hp) (hb : n = ms.length) (hn : n ≤ 100000) (hk : kid.size ≤ 100) : CallO Tryz.prog 41 [.si (.ce (.self 0)), pv (.string kid)] H [.row 5 1 n (bCells ms)] fun e _ G' =>
    e = .ret (.si (.ce (.self 1))) ∧ G' = [.dead, .row 5 1 32 (bCells (hkdf ms (infoB kid)))] := by
  refine CallO.eat 0 (t := 5) (sz := 1) (n := n) (xs := bCells ms) rfl (fun h0 => by have : ms = [] := List.eq_nil_of_length_eq_zero (by omega); rw [this]; rfl) ?_
  intro x H2 hle hfr
  obtain ⟨A, cap, rfl, hb⟩ := BytesAt.of_frozen hb hfr
  refine (CallS.use (Ref14.key ms A n cap kid H2 hb hn hk) [] rfl rfl trivial ?_).to
  rintro e H' G' hle ⟨rfl, rfl⟩
  (conv => whnf)
  exact ⟨rfl, rfl⟩
theorem ringReads (c : UInt8) (count : Int) (s : ByteArray) (hs0 : s.size ≤ 9223372036854775807) (H : Hp) (hE : Ob.ErrH H) : CallO Tryz.prog 10 [pv (.int .u8 c.toNat), pv (.int .i64 count), pv (.string s)] H [] fun e _ _ => e = .ret (pv (.bool true)) := by
  refine CallO.of_body Ring.Law.tab Tryz.func10 rfl (nt := Tryz.f10.ntmps) rfl (by kernel_rfl) ?_
  (conv => whnf)
  refine ⟨⟨_, Tryz.func35, rfl, by kernel_rfl⟩, CallS.use (Ring.Law.anchor H) [] rfl rfl trivial ?_⟩
  rintro e H2 G' hle2 ⟨rfl, rfl⟩
  (conv => whnf)
  refine br.of (fun h1 => ?_) (fun h1 => ?_) <;> (conv => whnf)
  · rfl
  have h1 := of_decide_eq_false h1
  refine br.of (fun h2 => ?_) (fun h2 => ?_) <;> (conv => whnf)
  · rfl
  have h2 := of_decide_eq_false h2
  refine br.of (fun h3 => ?_) (fun h3 => ?_) <;> (conv => whnf)
  · rfl
  have h3 := of_decide_eq_false h3
  have hs : s.size ≤ 1500 := by omega
  refine ⟨⟨_, Tryz.func37, rfl, by kernel_rfl⟩, CallS.use (Ring.Law.master c H2) [] rfl rfl trivial ?_⟩
  rintro e H3 G' hle3 ⟨rfl, rfl, rfl⟩
  (conv => whnf)
  refine ⟨⟨_, Tryz.func36, rfl, by kernel_rfl⟩, CallS.use (Ring.Law.newO (Ring.Law.mst c) 32 count H3 rfl (by decide) (by decide) (by omega) (by omega)) [0] rfl rfl ⟨rfl, trivial⟩ ?_⟩
  rintro e H4 G' hle4 ⟨rfl, B, m, cp, hb, rfl⟩
  (conv => whnf)
  have hr := ringRead (Ring.Law.mst c) B m cp count s (by omega) H4 (hE.mono ((hle2.trans hle3).trans hle4)) (by omega) (by omega) hb (by have := hb.1; have h32 : (Ring.Law.mst c).length = 32 := rfl; omega)
  have hp := Jw.parse_ s (by omega : s.size ≤ 1000000)
  have herr : ∀ x, partsP s = .error x → x ≠ 0 := fun x hx => by rcases parts_err hx with h | h | h <;> omega
  have hkid := fun t => parts_kid (s := s) (t := t)
  unfold RingRd at hr
  generalize partsP s = X0 at hp herr hkid hr
  refine ⟨⟨_, Tryz.func38, rfl, by kernel_rfl⟩, CallS.use hr [1] rfl rfl ⟨rfl, trivial⟩ ?_⟩
  rintro e H5 G' hle5 ⟨⟨X, hX, hRX⟩, hle5', rfl⟩
  obtain rfl := rcl hRX
  (conv => whnf)
  refine ⟨⟨_, Tryz.func39, rfl, by kernel_rfl⟩, CallS.use (hp H5) [] rfl rfl trivial ?_⟩
  rintro e H6 G' hle6 ⟨hout, hle6', rfl⟩
  cases X0 with
  | error x =>
    have hx := herr x rfl
    obtain rfl := hout
    obtain rfl := hX
    (conv => whnf)
    refine br.of (fun h4 => ?_) (fun h4 => ?_) <;> (conv => whnf)
    rotate_left
    · simp only [bne_eq_false_iff_eq] at h4
      exact absurd h4 hx
    rw [show (nX (Except.error x) == x) = true from beq_self_eq_true x]
    (conv => whnf)
    change QO _ _ _ _ _ _
    refine eqClm (x := .tmp 56) (y := .tmp 57) ?_ clm0 clm0 ?_ ?_ fit0 fit0 ?_
    · rfl
    · rfl
    · rfl
    intro r hr
    obtain rfl : r = true := hr.2 rfl
    (conv => whnf)
    rfl
  | ok tk =>
    obtain ⟨q, hq, hq0, hq1⟩ := hX
    have hks := hkid tk rfl
    obtain ⟨A1, n1, c1, B1, m1, d1, rfl, hb1, hb2⟩ := hout
    have hfx : FitC (clX X) := by
      by_cases hqz : q = 0
      · rw [hq0 hqz]; exact fit0
      · rw [hq1 hqz]; exact fitX
    (conv => whnf)
    refine ⟨⟨_, Tryz.func40, rfl, by kernel_rfl⟩, CallS.use (Ref14.kids count (by omega) (by omega) H6) [] rfl rfl trivial ?_⟩
    rintro e H7 G' hle7 ⟨⟨Bk, mk, ck, rfl, hvk⟩, rfl⟩
    have hmk : mk = (kidsB count).length := by have := hvk.1; unfold strV at this; rwa [List.length_map] at this
    subst hmk
    obtain ⟨o1, o2, o3⟩ := oldest_le count (by omega)
    have hkl : (kidsB count).length = (count - oldest count + 1).toNat := by unfold kidsB; simp
    have hka : ∀ i : Nat, i < (kidsB count).length → (kidsB count)[i]? = some (kidB (oldest count + i)) := fun i hi => by
      unfold kidsB at hi ⊢
      rw [List.length_map, List.length_range] at hi
      simp [hi]
    have hks' : ∀ i : Nat, i < (kidsB count).length → (strV (kidsB count))[i]? = some (.string (kidB (oldest count + i))) := fun i hi => by
      unfold strV
      rw [List.getElem?_map, hka i hi]; rfl
    have hyes : ∀ i : Nat, i < (kidsB count).length → kidB (oldest count + i) = tk.kid → X = readP s (hkdf (Ring.Law.mst c) (infoB tk.kid)) := fun i hi e => by
      refine hq1 ?_
      have := hq.2 (oldest count + i) (by omega) (by omega) e.symm
      omega
    have hno : (∀ j : Nat, j < (kidsB count).length → kidB (oldest count + j) ≠ tk.kid) → X = .error 41 := fun h => by
      refine hq0 ?_
      by_cases hqz : q = 0
      · exact hqz
      · obtain ⟨g1, g2, g3⟩ := hq.1 hqz
        have hj : (q - oldest count).toNat < (kidsB count).length := by omega
        refine absurd ?_ (h _ hj)
        rw [g3]
        congr 1; omega
    have hle47 := (hle5'.trans hle6').trans hle7
    have hle07 := ((hle2.trans hle3).trans hle4).trans hle47
    clear hq hq0 hq1
    generalize kidsB count = Kd at *
    (conv => whnf)
    refine WS.loop (fun k' F H8 G => ∃ i : Nat, i ≤ Kd.length ∧ (∀ j : Nat, j < i → kidB (oldest count + j) ≠ tk.kid) ∧ k' = Kd.length - i ∧ F = [(0, pv (.int .u8 c.toNat)), (2, pv (.string s)), (9, .si (.ce (.ptr 0 0))), (10, pv (.int .i64 (nX X))), (11, .si (.ce (.ptr 1 0))), (61, pv (.slice Bk Kd.length ck)), (62, pv (.int .i64 Kd.length)), (63, pv (.int .i64 i))] ∧ H7.Le H8 ∧ G = [.box 25 (csC (clX X)), .box 80 [.val (.string tk.kid), .val (.string tk.typ), .val (.slice A1 n1 c1), .val (.string ⟨tk.signed.toArray⟩), .val (.slice B1 m1 d1)]]) (Kd.length + 1) ?_ ?_
    · refine ⟨Kd.length, by omega, _, _, [2, 3], ⟨0, by omega, fun j hj => absurd hj (by omega), rfl, rfl, .refl _, rfl⟩, ?_⟩
      exact ⟨rfl, ⟨rfl, rfl, trivial⟩, rfl, rfl, rfl, rfl, rfl, rfl, rfl, rfl, trivial⟩
    rintro k' F H8 G hle8 ⟨i, hi, hne, rfl, rfl, hle9, rfl⟩
    refine codeL.go Ring.Law.tab ?_
    (conv => whnf)
    refine br.of (fun h7 => ?_) (fun h7 => ?_) <;> (conv => whnf)
    · have h7 := of_decide_eq_true h7
      have hil : i < Kd.length := by omega
      refine ⟨⟨by omega, by omega⟩, hvk.addr (by omega), ?_⟩
      (conv => whnf)
      refine ⟨_, (hvk.mono hle9).get (hks' i hil) (by show (i : Int).toNat * 1 = i; omega), ?_⟩
      (conv => whnf)
      refine br.of (fun h8 => ?_) (fun h8 => ?_) <;> (conv => whnf)
      · have h8 := (strEq_iff ..).1 h8
        have hX := hyes i hil h8
        rw [h8]
        refine ⟨⟨_, Tryz.func37, rfl, by kernel_rfl⟩, CallS.use (Ring.Law.master c H8) [] rfl rfl trivial ?_⟩
        rintro e H9 G' hle10 ⟨rfl, rfl, rfl⟩
        (conv => whnf)
        refine ⟨⟨_, Tryz.func41, rfl, by kernel_rfl⟩, CallS.use (keyO (Ring.Law.mst c) 32 tk.kid H9 rfl (by decide) (by omega)) [2] rfl rfl ⟨rfl, trivial⟩ ?_⟩
        rintro e H10 G' hle11 ⟨rfl, rfl⟩
        (conv => whnf)
        refine ⟨⟨_, Tryz.func26, rfl, by kernel_rfl⟩, CallS.use (readO s (by omega) (hkdf (Ring.Law.mst c) (infoB tk.kid)) 32 (hkdf_length _ _).symm (by decide) (by decide) H10 (hE.mono (((hle07.trans hle9).trans hle10).trans hle11))) [3] rfl rfl ⟨rfl, trivial⟩ ?_⟩
        rintro e H11 G' hle12 ⟨hr2, hle12', rfl⟩
        rw [← hX] at hr2
        obtain rfl := rcl hr2
        (conv => whnf)
        rw [show (nX X == nX X) = true from beq_self_eq_true _]
        (conv => whnf)
        change QO _ _ _ _ _ _
        refine eqClm (x := .tmp 85) (y := .tmp 86) ?_ (clX X) (clX X) ?_ ?_ hfx hfx ?_
        · rfl
        · rfl
        · rfl
        intro r hr
        obtain rfl : r = true := hr.2 rfl
        (conv => whnf)
        rfl
      · have h8 : kidB (oldest count + i) ≠ tk.kid := fun h => by rw [h, str_refl] at h8; cases h8
        rw [wrap64 (x := (i : Int) + 1) (by omega) (by omega)]
        refine ⟨Kd.length - (i + 1), by omega, _, _, [0, 1], ⟨i + 1, by omega, fun j hj => ?_, rfl, rfl, hle9, rfl⟩, ?_⟩
        · rcases Nat.lt_or_ge j i with hji | hji
          · exact hne j hji
          · obtain rfl : j = i := by omega
            exact h8
        · exact ⟨rfl, ⟨rfl, rfl, trivial⟩, rfl, rfl, rfl, rfl, rfl, rfl, rfl, rfl, trivial⟩
    · have h7 := of_decide_eq_false h7
      obtain rfl : i = Kd.length := by omega
      obtain rfl := hno hne
      (conv => whnf)
      change QO _ _ _ _ _ _
      refine eqClm (x := .tmp 93) (y := .tmp 94) ?_ clm0 clm0 ?_ ?_ fit0 fit0 ?_
      · rfl
      · rfl
      · rfl
      intro r hr
      obtain rfl : r = true := hr.2 rfl
      (conv => whnf)
      rfl
end Go.Kx.Rr
namespace Go.Kx.Rr
open Go.Proofs Go.Kx Go.RowKit Go.Kx.Js Go.Kx.Pr Go.Kx.Rt Go.Kx.Ob Go.Kx.Wo Go.Kx.Cl Go.Kx.Su Go.Kx.Se Go.Kx.Jw Go.Kx.Ring Go.Kx.Sha Go.Kx.L13
set_option maxRecDepth 20000
set_option linter.unusedSimpArgs false
theorem signO (C : Clm) (hk : -9223372036854775808 ≤ C.kind ∧ C.kind ≤ 9223372036854775807) (kid : ByteArray) (key : List UInt8) (n : Nat) (hn : n = key.length) (hn0 : 0 < n) (hm : n ≤ 1000000) (H : Hp) : CallO Tryz.prog 24 [agC C, pv (.string kid), .si (.ce (.self 0))] H [.row 5 1 n (bCells key)] fun e H' G' => e = .ret (.tu [.ce (.val (.string (csignP C kid key).1)), .ce (.val (.int .i64 (csignP C kid key).2))]) ∧ H.Le H' ∧ G' = [.dead] := by
  refine CallO.eat 0 (t := 5) (sz := 1) (n := n) (xs := bCells key) rfl (fun h0 => by omega) ?_
  intro x H2 hle hfr
  obtain ⟨A, cap, rfl, hb⟩ := BytesAt.of_frozen hn hfr
  subst hn
  refine (CallS.use (sign_ C hk kid key A cap hm H2 hb) [] rfl rfl trivial ?_).to
  rintro e H' G' hle2 ⟨rfl, hle3, rfl⟩
  (conv => whnf)
  exact ⟨rfl, hle.trans hle3, rfl⟩
theorem ringSign (ms : List UInt8) (A : Option Addr) (n cap : Nat) (count : Int) (C : Clm) (hk : -9223372036854775808 ≤ C.kind ∧ C.kind ≤ 9223372036854775807) (H : Hp) (hc : 1 ≤ count) (hc2 : count ≤ 1099511627776) (hb : BytesAt H A n ms) (hn : n ≤ 1000000) :
    CallO Tryz.prog 42 [.si (.ce (.ptr 0 0)), agC C] H [ringB A n cap count] fun e H' G' => e = .ret (.tu [.ce (.val (.string (csignP C (kidB count) (hkdf ms (infoB (kidB count)))).1)), .ce (.val (.int .i64 (csignP C (kidB count) (hkdf ms (infoB (kidB count)))).2))]) ∧ H.Le H' ∧ G' = [ringB A n cap count] := by
  have hks : (kidB count).size ≤ 100 := by
    have := itoa_size count (by omega) (by omega)
    have h2 : (kidB count).size = (kidB count).data.toList.length := by rw [Array.length_toList]; rfl
    rw [h2, kid_list, List.length_cons]
    have h3 : (Lb.itoaB count).data.toList.length = (Lb.itoaB count).size := by rw [Array.length_toList]; rfl
    omega
  refine CallO.of_body Ring.Law.tab Tryz.func42 rfl (nt := Tryz.f42.ntmps) rfl (by kernel_rfl) ?_
  (conv => whnf)
  refine ⟨⟨_, Tryz.func88, rfl, by kernel_rfl⟩, CallS.use (name_ count (by omega) (by omega) H) [] rfl rfl trivial ?_⟩
  rintro e H2 G' hle2 ⟨rfl, rfl, rfl⟩
  (conv => whnf)
  refine WS.draw Ring.Law.tab mixed (.take 0 (.take 1 (.take 2 (.take 3 (.alt 4 (.alt 5 (.take 6 (.take 7 (.take 8 (.take 9 .done)))) .no) .no))))) (by kernel_rfl) [] ?_
  (conv => whnf)
  refine And.intro ?_ ?_ <;> (conv => whnf)
  rotate_left
  · exact trivial
  refine ⟨⟨_, Tryz.func89, rfl, by kernel_rfl⟩, CallS.use (secret_ ms A n cap count (kidB count) H2 hb hn hks) [0] rfl rfl ⟨rfl, trivial⟩ ?_⟩
  rintro e H3 G' hle3 ⟨rfl, rfl⟩
  (conv => whnf)
  refine ⟨⟨rfl, rfl, trivial⟩, ?_⟩
  (conv => whnf)
  refine And.intro ?_ ?_ <;> (conv => whnf)
  rotate_left
  · exact trivial
  refine ⟨⟨_, Tryz.func24, rfl, by kernel_rfl⟩, CallS.use (signO C hk (kidB count) (hkdf ms (infoB (kidB count))) 32 (hkdf_length _ _).symm (by decide) (by decide) H3) [2] rfl rfl ⟨rfl, trivial⟩ ?_⟩
  rintro e H4 G' hle4 ⟨rfl, hle4', rfl⟩
  (conv => whnf)
  refine ⟨⟨rfl, rfl, trivial, trivial⟩, ?_⟩
  (conv => whnf)
  exact ⟨rfl, hle3.trans hle4, rfl⟩
theorem kid_inj {a b : Int} (ha : 0 ≤ a) (hb : 0 ≤ b) (ha2 : a < 9000000000000000000) (hb2 : b < 9000000000000000000) (h : kidB a = kidB b) : a = b := by
  have h1 := congrArg (fun s : ByteArray => s.data.toList) h
  simp only [kid_list, itoa_dec ha, itoa_dec hb, List.cons.injEq, true_and] at h1
  have p1 := Lb.parse_dec a.toNat (by omega)
  have p2 := Lb.parse_dec b.toNat (by omega)
  rw [h1, p2] at p1
  injection p1 with p1
  omega
theorem kid_word {count : Int} (h0 : 0 ≤ count) (h1 : count ≤ 1099511627776) : Wo.wordP 40 (kidB count) = true := by
  have e : (kidB count).data.toList = 107 :: Lib.decDigits count.toNat := by rw [kid_list, itoa_dec h0]
  have hl := dec_len 13 count.toNat (by omega) (by decide)
  have hsz : (kidB count).size = (kidB count).data.toList.length := by rw [Array.length_toList]; rfl
  have ht : toldP (kidB count) = true := by
    refine told_lit ?_
    rw [e]
    simp only [List.all_cons, dig_ascii _ (Ro.dec_dig _), Bool.and_true]
    decide
  unfold Wo.wordP
  rw [ht]
  rw [e, List.length_cons] at hsz
  have hne : strEq (kidB count) ⟨#[]⟩ = false := by
    rw [strEq_false]
    intro h0
    rw [h0] at e
    simp at e
  rw [hne]
  simp only [Bool.not_false, Bool.true_and, Bool.and_true, decide_eq_true_eq]
  omega
def clJti (jti : ByteArray) : Clm := ⟨⟨#[105]⟩, jti, ⟨#[97]⟩, 5, ⟨#[116]⟩, ⟨sOpaque, ⟨#[117]⟩, ⟨#[]⟩⟩, 1, ⟨#[]⟩⟩
theorem claims2 (jti : ByteArray) (H : Hp) : CallO Tryz.prog 43 [pv (.string jti)] H [] fun e H' G' => e = .ret (.si (.ag (csC (clJti jti)))) ∧ H' = H ∧ G' = [] := claims_ jti H
theorem rightC (C : Clm) (hk : -9223372036854775808 ≤ C.kind ∧ C.kind ≤ 9223372036854775807) (H : Hp) : CallO Tryz.prog 15 [.si (.ag (csC C))] H [] fun e H' G' => e = .ret (pv (.bool (clRight C))) ∧ H.Le H' ∧ G' = [] :=
  Se.right0 C.iss C.jti C.aud C.iat C.txn C.sub.fmt C.sub.id C.sub.own C.kind C.reason hk H
theorem jti_kind (jti : ByteArray) : -9223372036854775808 ≤ (clJti jti).kind ∧ (clJti jti).kind ≤ 9223372036854775807 := ⟨by show (-9223372036854775808 : Int) ≤ 1; decide, by show (1 : Int) ≤ 9223372036854775807; decide⟩
theorem jti_fit (jti : ByteArray) (h : jti.size ≤ 300) : FitC (clJti jti) :=
  ⟨(by decide : (⟨#[105]⟩ : ByteArray).size ≤ maxLen), Nat.le_trans h (by decide), (by decide : (⟨#[97]⟩ : ByteArray).size ≤ maxLen), (by decide : (Lit.int .i64 5).wf = true), (by decide : (⟨#[116]⟩ : ByteArray).size ≤ maxLen), (by decide : sOpaque.size ≤ maxLen), (by decide : (⟨#[117]⟩ : ByteArray).size ≤ maxLen), Nat.zero_le _, (by decide : (Lit.int .i64 1).wf = true), Nat.zero_le _⟩
theorem ringSigns (c : UInt8) (count turns : Int) (ht0 : -9223372036854775808 ≤ turns ∧ turns ≤ 9223372036854775807) (jti : ByteArray) (H : Hp) (hE : Ob.ErrH H) : CallO Tryz.prog 11 [pv (.int .u8 c.toNat), pv (.int .i64 count), pv (.int .i64 turns), pv (.string jti)] H [] fun e _ _ => e = .ret (pv (.bool true)) := by
  refine CallO.of_body Ring.Law.tab Tryz.func11 rfl (nt := Tryz.f11.ntmps) rfl (by kernel_rfl) ?_
  (conv => whnf)
  refine ⟨⟨_, Tryz.func35, rfl, by kernel_rfl⟩, CallS.use (Ring.Law.anchor H) [] rfl rfl trivial ?_⟩
  rintro e H2 G' hle2 ⟨rfl, rfl⟩
  (conv => whnf)
  refine br.of (fun h1 => ?_) (fun h1 => ?_) <;> (conv => whnf)
  · rfl
  have h1 := of_decide_eq_false h1
  refine br.of (fun h2 => ?_) (fun h2 => ?_) <;> (conv => whnf)
  · rfl
  have h2 := of_decide_eq_false h2
  refine br.of (fun h3 => ?_) (fun h3 => ?_) <;> (conv => whnf)
  · rfl
  have h3 := of_decide_eq_false h3
  refine br.of (fun h4 => ?_) (fun h4 => ?_) <;> (conv => whnf)
  · rfl
  have h4 := of_decide_eq_false h4
  refine br.of (fun h5 => ?_) (fun h5 => ?_) <;> (conv => whnf)
  · rfl
  have h5 := of_decide_eq_false h5
  refine ⟨⟨_, Tryz.func37, rfl, by kernel_rfl⟩, CallS.use (Ring.Law.master c H2) [] rfl rfl trivial ?_⟩
  rintro e H3 G' hle3 ⟨rfl, rfl, rfl⟩
  (conv => whnf)
  refine ⟨⟨_, Tryz.func36, rfl, by kernel_rfl⟩, CallS.use (Ring.Law.newO (Ring.Law.mst c) 32 count H3 rfl (by decide) (by decide) (by omega) (by omega)) [0] rfl rfl ⟨rfl, trivial⟩ ?_⟩
  rintro e H4 G' hle4 ⟨rfl, B, m, cp, hb, rfl⟩
  have hm : m = 32 := hb.1
  (conv => whnf)
  refine ⟨⟨_, Tryz.func43, rfl, by kernel_rfl⟩, CallS.use (claims2 jti H4) [] rfl rfl trivial ?_⟩
  rintro e H5 G' hle5 ⟨rfl, rfl, rfl⟩
  (conv => whnf)
  have hsign := ringSign (Ring.Law.mst c) B m cp count (clJti jti) (jti_kind jti) H5 (by omega) (by omega) hb (by omega)
  refine ⟨⟨_, Tryz.func42, rfl, by kernel_rfl⟩, CallS.use hsign [1] rfl rfl ⟨rfl, trivial⟩ ?_⟩
  rintro e H6 G' hle6 ⟨rfl, hle6', rfl⟩
  (conv => whnf)
  refine ⟨⟨_, Tryz.func43, rfl, by kernel_rfl⟩, CallS.use (claims2 jti H6) [] rfl rfl trivial ?_⟩
  rintro e H7 G' hle7 ⟨rfl, rfl, rfl⟩
  (conv => whnf)
  refine ⟨⟨_, Tryz.func15, rfl, by kernel_rfl⟩, CallS.use (rightC (clJti jti) (jti_kind jti) H7) [] rfl rfl trivial ?_⟩
  rintro e H8 G' hle8 ⟨rfl, hle8', rfl⟩
  have hcs : csignP (clJti jti) (kidB count) (hkdf (Ring.Law.mst c) (infoB (kidB count))) = if clRight (clJti jti) = false then (⟨#[]⟩, 10) else signP (kidB count) sType (wrJ (clJ (clJti jti))) (hkdf (Ring.Law.mst c) (infoB (kidB count))) := rfl
  have hri := right_iff (clJti jti)
  have hfit := jti_fit jti (by omega)
  have hcl := claims2 jti
  generalize clJti jti = C at *
  cases hr : clRight C
  · rw [hr, if_pos rfl] at hcs
    rw [hcs]
    (conv => whnf)
    rfl
  have hR := hri.1 hr
  rw [hr, if_neg (by decide)] at hcs
  have hkw := kid_word (count := count) (by omega) (by omega)
  have hpl := cl_wrl hR
  have hsp : signP (kidB count) sType (wrJ (clJ C)) (hkdf (Ring.Law.mst c) (infoB (kidB count))) = (⟨(tokenP (kidB count) sType (wrJ (clJ C)) (hkdf (Ring.Law.mst c) (infoB (kidB count)))).toArray⟩, 0) := by
    unfold signP
    have h6 : (Wo.wordP 40 (kidB count) && Wo.wordP 40 sType) = true := by rw [hkw]; decide +kernel
    rw [h6, if_neg (by decide), if_neg (by omega), if_neg (by rw [hkdf_length]; decide)]
  have hst : Wo.wordP 40 sType = true := by decide +kernel
  have hpt := token_read (key := hkdf (Ring.Law.mst c) (infoB (kidB count))) hkw hst hpl
  have hread := sign_read (c := C) (kid := kidB count) (key := hkdf (Ring.Law.mst c) (infoB (kidB count))) (hcs.trans hsp)
  have htsz := csign_size (hcs.trans hsp)
  rw [hsp] at hcs
  rw [hcs]
  clear hsp
  generalize (⟨(tokenP (kidB count) sType (wrJ (clJ C)) (hkdf (Ring.Law.mst c) (infoB (kidB count)))).toArray⟩ : ByteArray) = tok at *
  obtain ⟨tk, htk, htkk⟩ : ∃ tk : Tok, partsP tok = .ok tk ∧ tk.kid = kidB count := ⟨_, hpt, rfl⟩
  replace hpt := htk; clear htk
  (conv => whnf)
  have hp := Jw.parse_ tok (by omega : tok.size ≤ 1000000) H8
  rw [hpt] at hp
  refine ⟨⟨_, Tryz.func39, rfl, by kernel_rfl⟩, CallS.use hp [] rfl rfl trivial ?_⟩
  rintro e H9 G' hle9 ⟨⟨A1, n1, c1, B1, m1, d1, rfl, hb1, hb2⟩, hle9', rfl⟩
  (conv => whnf)
  refine ⟨⟨_, Tryz.func40, rfl, by kernel_rfl⟩, CallS.use (Ref14.kids count (by omega) (by omega) H9) [] rfl rfl trivial ?_⟩
  rintro e H10 G' hle10 ⟨⟨Bk, mk, ck, rfl, hvk⟩, rfl⟩
  obtain ⟨o1, o2, o3⟩ := oldest_le count (by omega)
  have hkl : (kidsB count).length = (count - oldest count + 1).toNat := by unfold kidsB; simp
  have hmk : mk = (kidsB count).length := by have := hvk.1; unfold strV at this; rwa [List.length_map] at this
  subst hmk
  have hlast : (strV (kidsB count))[(kidsB count).length - 1]? = some (.string (kidB count)) := by
    have hlt : (kidsB count).length - 1 < (kidsB count).length := by omega
    have h6 : (kidsB count)[(kidsB count).length - 1]? = some (kidB count) := by
      have e : oldest count + (((kidsB count).length - 1 : Nat) : Int) = count := by omega
      conv => rhs; rw [← e]
      generalize hg : (kidsB count).length - 1 = g at hlt ⊢
      unfold kidsB at hlt ⊢
      rw [List.length_map, List.length_range] at hlt
      simp [hlt]
    unfold strV
    rw [List.getElem?_map, h6]; rfl
  generalize kidsB count = Kd at *
  (conv => whnf)
  refine WS.draw Ring.Law.tab mixed (.take 0 (.take 1 (.take 2 (.take 3 (.take 4 (.take 5 (.take 6 (.take 7 (.take 8 (.take 9 (.take 10 (.take 11 (.take 12 (.take 13 (.take 14 (.take 15 (.take 16 (.take 17 .done)))))))))))))))))) (by kernel_rfl) [] ?_
  (conv => whnf)
  rw [wrap64 (x := (Kd.length : Int) - 1) (by omega) (by omega)]
  refine ⟨⟨by omega, by omega⟩, hvk.addr (by omega), ?_⟩
  (conv => whnf)
  refine ⟨_, hvk.get hlast (by show ((Kd.length : Int) - 1).toNat * 1 = _; omega), ?_⟩
  (conv => whnf)
  rw [htkk, str_refl]
  (conv => whnf)
  have hle410 := (((hle5.trans hle6).trans hle7).trans hle8).trans (hle9.trans hle10)
  have hleE := ((hle2.trans hle3).trans hle4).trans hle410
  refine WS.loop (fun k' F H8 G => ∃ i : Nat, (i : Int) ≤ turns ∧ k' = turns.toNat - i ∧ F = [(2, pv (.int .i64 turns)), (3, pv (.string jti)), (9, .si (.ce (.ptr 0 0))), (11, pv (.string tok)), (90, pv (.int .i64 turns)), (91, pv (.int .i64 i))] ∧ H8 = H10 ∧ G = [ringB B m cp (count + i)]) 14 ?_ ?_
  · refine ⟨turns.toNat, by omega, _, _, [1], ⟨0, by omega, rfl, rfl, rfl, rfl⟩, ?_⟩
    rw [show count + ((0 : Nat) : Int) = count by omega]
    exact ⟨rfl, ⟨rfl, trivial⟩, rfl, rfl, rfl, rfl, rfl, rfl, trivial⟩
  rintro k' F H11 G hle11 ⟨i, hi, rfl, rfl, rfl, rfl⟩
  refine codeL.go Ring.Law.tab ?_
  (conv => whnf)
  refine br.of (fun h7 => ?_) (fun h7 => ?_) <;> (conv => whnf)
  · have h7 := of_decide_eq_true h7
    refine ⟨⟨_, Tryz.func44, rfl, by kernel_rfl⟩, CallS.use (rotate B m cp (count + i) (by omega) (by omega) H11) [0] rfl rfl ⟨rfl, trivial⟩ ?_⟩
    rintro e H12 G' hle12 ⟨-, h8, rfl⟩
    obtain ⟨rfl, rfl⟩ := h8 (by omega)
    (conv => whnf)
    rw [wrap64 (x := (i : Int) + 1) (by omega) (by omega)]
    refine ⟨turns.toNat - (i + 1), by omega, _, _, [0], ⟨i + 1, by omega, rfl, rfl, rfl, rfl⟩, ?_⟩
    refine ⟨rfl, ⟨?_, trivial⟩, rfl, rfl, rfl, rfl, rfl, rfl, trivial⟩
    show ringB B m cp (count + (i : Int) + 1) = ringB B m cp (count + ((i + 1 : Nat) : Int))
    congr 1
    omega
  have h7 := of_decide_eq_false h7
  obtain rfl : turns = (i : Int) := by omega
  have hr := ringRead (Ring.Law.mst c) B m cp (count + i) tok (by omega) H11 (hE.mono hleE) (by omega) (by omega) (hb.mono hle410) (by omega)
  unfold RingRd at hr
  rw [hpt] at hr
  refine ⟨⟨_, Tryz.func38, rfl, by kernel_rfl⟩, CallS.use hr [0] rfl rfl ⟨rfl, trivial⟩ ?_⟩
  rintro e H12 G' hle12 ⟨⟨X, ⟨q, hq, hq0, hq1⟩, hRX⟩, hle12', rfl⟩
  obtain rfl := rcl hRX
  rw [htkk] at hq hq1
  (conv => whnf)
  refine br.of (fun h8 => ?_) (fun h8 => ?_) <;> (conv => whnf)
  · have h8 := of_decide_eq_true h8
    have hqz : q = 0 := by
      by_cases hqz : q = 0
      · exact hqz
      · obtain ⟨g1, g2, g3⟩ := hq.1 hqz
        have h9 := (oldest_le (count + i) (by omega))
        have h10 := kid_inj (by omega) (by omega) (by omega) (by omega) g3
        omega
    obtain rfl := hq0 hqz
    (conv => whnf)
    change QO _ _ _ _ _ _
    refine eqClm (x := .tmp 107) (y := .tmp 108) ?_ clm0 clm0 ?_ ?_ fit0 fit0 ?_
    · rfl
    · rfl
    · rfl
    intro r hr
    obtain rfl : r = true := hr.2 rfl
    (conv => whnf)
    rfl
  have h8 := of_decide_eq_false h8
  have hqz : q ≠ 0 := by
    have := hq.2 count (by unfold oldest maxB; split <;> omega) (by omega) rfl
    omega
  obtain rfl := hq1 hqz
  rw [hread]
  (conv => whnf)
  refine WS.draw Ring.Law.tab mixed (.take 0 (.take 1 (.take 2 (.take 3 (.take 4 (.alt 5 (.take 6 (.take 7 (.take 8 .done))) .no)))))) (by kernel_rfl) [] ?_
  (conv => whnf)
  refine And.intro ?_ ?_ <;> (conv => whnf)
  rotate_left
  · exact trivial
  refine ⟨⟨_, Tryz.func43, rfl, by kernel_rfl⟩, CallS.use (hcl H12) [] rfl rfl trivial ?_⟩
  rintro e H13 G' hle13 ⟨rfl, rfl, rfl⟩
  (conv => whnf)
  refine ⟨?_, ?_⟩
  · exact ⟨rfl, rfl, trivial⟩
  (conv => whnf)
  change QO _ _ _ _ _ _
  refine eqClm (x := .tmp 114) (y := .tmp 116) ?_ C C ?_ ?_ hfit hfit ?_
  · rfl
  · rfl
  · rfl
  intro r hr
  obtain rfl : r = true := hr.2 rfl
  (conv => whnf)
  rfl
end Go.Kx.Rr
