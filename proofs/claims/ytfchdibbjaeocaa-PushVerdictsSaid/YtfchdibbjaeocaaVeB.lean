/- PushVerdicts, walked. No condition of its own. -/
import Derived.Test.YtfchdibbjaeocaaVeA
import Derived.Test.YtfchdibbjaeocaaJsY
namespace Go.Kx.Js
theorem rowP_len {α : Type} {len : α → Nat} {one : α → List UInt8 → Res α} {en : UInt8} (ho : ∀ x l y r, one x l = .ok y r → Sfx r l ∧ len y = len x + 1) : ∀ (m : Nat) (first : Bool) (x : α) (l : List UInt8) {y : α} {r : List UInt8}, rowP one en m first x l = .ok y r → len y + r.length ≤ len x + l.length + 1
  | 0, first, x, l, y, r, h => by cases h
  | m + 1, first, x, l, y, r, h => by
    cases hf : (if first then tk en l else none) with
    | some r2 =>
      cases first with
      | false => cases hf
      | true =>
        rw [if_pos rfl] at hf
        rw [rowP_end hf] at h
        injection h with h1 h
        subst h h1
        have := (tk_sfx hf).le
        omega
    | none =>
      rw [rowP_go hf] at h
      obtain ⟨z, r1, h1, h⟩ := bind_ok h
      obtain ⟨h2, h3⟩ := ho _ _ _ _ h1
      have h4 := h2.le
      have h5 := (blankP_sfx r1).le
      split at h
      · rename_i r2 ht
        injection h with h6 h
        subst h h6
        have := (tk_sfx ht).le
        omega
      · obtain ⟨_, r3, h6, h⟩ := bind_ok h
        have h7 := mustP_ok h6
        have h8 : (blankP r1).length = r3.length + 1 := by rw [h7]; rfl
        have h9 := (blankP_sfx r3).le
        have := rowP_len ho m _ _ _ h
        omega
theorem valP_mems : ∀ (d : Nat) (l : List UInt8) (j : J) (r : List UInt8), valP d l = .ok j r → List.length j.mems ≤ l.length + 1 := by
  intro d l j r h
  have hd : ∃ dp, valP d = valS dp ∧ ∀ val, dp = some val → SfxV val := by
    cases d with
    | zero => exact ⟨none, rfl, fun _ h => (nomatch h)⟩
    | succ d => exact ⟨some (valP d), rfl, fun _ h => by injection h with h; subst h; exact valP_sfx d⟩
  obtain ⟨dp, e, hd⟩ := hd
  rw [e, valS_eq] at h
  unfold valT at h
  have z : ∀ {α : Type} {a : Res α} {f : α → J} (_ : ∀ x, (f x).mems = []), (a.bind fun x r => .ok (f x) r) = .ok j r → List.length j.mems ≤ l.length + 1 := by
    intro α a f hf h
    obtain ⟨x, r1, h1, h⟩ := bind_ok h
    injection h with h2 h
    rw [← h2, hf x]
    exact Nat.zero_le _
  split at h
  · exact z (f := fun _ => jNull) (fun _ => rfl) h
  split at h
  · exact z (f := fun _ => jTruth true) (fun _ => rfl) h
  split at h
  · exact z (f := fun _ => jTruth false) (fun _ => rfl) h
  split at h
  · exact z (f := jStr) (fun _ => rfl) h
  split at h
  · cases dp with
    | none => cases h
    | some val => exact z (f := jArr) (fun _ => rfl) h
  split at h
  · cases dp with
    | none => cases h
    | some val =>
      obtain ⟨ms, r1, h1, h⟩ := bind_ok h
      injection h with h2 h
      rw [← h2]
      obtain ⟨_, r2, h3, h1⟩ := bind_ok h1
      have h4 := (enterP_sfx h3).le
      have h5 := rowP_len (len := List.length) (memP_sfx (hd val rfl)) _ _ _ _ h1
      show List.length ms ≤ l.length + 1
      simp only [List.length_nil] at h5
      omega
  split at h
  · exact z (f := jNum) (fun _ => rfl) h
  · cases h
theorem parseP_mems (bs : List UInt8) (d : Int) : List.length (parseP bs d).1.mems ≤ bs.length + 1 := by
  unfold parseP
  split
  · exact Nat.zero_le _
  split
  · exact Nat.zero_le _
  split
  · exact Nat.zero_le _
  cases hw : wholeP d.toNat bs with
  | no e r => exact Nat.zero_le _
  | ok j r =>
    unfold wholeP at hw
    obtain ⟨j2, r1, h1, hw⟩ := bind_ok hw
    have h2 := valP_mems _ _ _ _ h1
    have h3 := (blankP_sfx bs).le
    have : j2 = j := by
      split at hw
      · injection hw
      · cases hw
    subst this
    show List.length j2.mems ≤ _
    omega
end Go.Kx.Js
namespace Go.Kx.Ver
open Go.Proofs Go.Kx Go.Kx.Js
set_option maxRecDepth 20000
def T : Tab := [(27, { k := TK.st [(0, 3, 1), (1, 4, 1), (2, 9, 1), (3, 24, 1), (4, 25, 1)], agg := true, size := 5, bytes := 80, zero := [Z.i IntKind.i64, Z.b, Z.s, Z.sl, Z.sl] }), (3, { k := TK.int IntKind.i64, agg := false, size := 1, bytes := 8, zero := [Z.i IntKind.i64] }), (22, { k := TK.slice 5, agg := false, size := 1, bytes := 24, zero := [Z.sl] }), (4, { k := TK.bool, agg := false, size := 1, bytes := 1, zero := [Z.b] }), (28, { k := TK.int IntKind.i64, agg := false, size := 1, bytes := 8, zero := [Z.i IntKind.i64] }), (9, { k := TK.string, agg := false, size := 1, bytes := 16, zero := [Z.s] }), (24, { k := TK.slice 27, agg := false, size := 1, bytes := 24, zero := [Z.sl] }), (25, { k := TK.slice 56, agg := false, size := 1, bytes := 24, zero := [Z.sl] }), (5, { k := TK.int IntKind.u8, agg := false, size := 1, bytes := 1, zero := [Z.i IntKind.u8] }), (56, { k := TK.st [(0, 9, 1), (1, 27, 5)], agg := true, size := 6, bytes := 96, zero := [Z.s, Z.i IntKind.i64, Z.b, Z.s, Z.sl, Z.sl] })]
set_option maxRecDepth 100000 in
theorem tab : TabOk Try.prog T := tabOk_mk (ts := [27, 3, 22, 4, 28, 9, 24, 25, 5, 56]) (by kernel_rfl)
theorem mixed : Try.prog.follows .mixedOrders = true := by kernel_rfl
def errB : ByteArray := ⟨#[101, 114, 114]⟩
/-- A value's member, as what is told of it: its kind, and whether it is there. -/
def gk (j : J) : Int × Bool :=
  match j.get errB with
  | some m => (m.kind, true)
  | none => (0, false)
def saidP (bs : List UInt8) : Bool := ((parseP bs 4).2.1 == 0) && ((gk (parseP bs 4).1).2 && ((gk (parseP bs 4).1).1 == 4))
theorem rg_cells {j : J} {e : SE} {H : Hp} (h : RG (j.get errB) e H) : ∃ k y t A n c B m d, k = (gk j).1 ∧ e = .ret (.tu [.ag [.val (.int .i64 k), .val (.bool y), .val (.string t), .val (.slice A n c), .val (.slice B m d)], .ce (.val (.bool (gk j).2))]) := by
  unfold gk
  cases hg : j.get errB with
  | none => rw [hg] at h; exact ⟨_, _, _, _, _, _, _, _, _, rfl, h⟩
  | some m =>
    rw [hg] at h
    obtain ⟨k, y, t, A, n, c, B, mm, d, rfl, hj⟩ := h
    cases hj
    exact ⟨_, _, _, _, _, _, _, _, _, rfl, rfl⟩
theorem said_ (bs : List UInt8) (A : Option Addr) (n cap : Nat) (H : Hp) (hb : BytesZ H A n bs) (hn : n ≤ 100000) : CallO Try.prog 16 [pv (.slice A n cap)] H [] fun e _ G' => e = .ret (pv (.bool (saidP bs))) ∧ G' = [] := by
  have hlen := hb.1
  have hmem := parseP_mems bs 4
  refine CallO.of_body tab Try.func16 rfl (nt := Try.f16.ntmps) rfl (by kernel_rfl) ?_
  (conv => whnf)
  refine ⟨⟨_, Try.func5, rfl, by kernel_rfl⟩, CallS.use (parse_ bs A n cap 4 H hb hn) [] rfl rfl trivial ?_⟩
  rintro e H2 G' hle ⟨⟨k, y, t, A2, n2, c2, B, m, f, rfl, hj⟩, rfl⟩
  unfold saidP
  generalize parseP bs 4 = x at *
  obtain ⟨j, er, at_⟩ := x
  (conv => whnf)
  refine ⟨⟨_, Try.func6, rfl, by kernel_rfl⟩, CallS.use (get_ j k y t A2 n2 c2 B m f errB H2 hj (by show List.length j.mems ≤ _; change List.length j.mems ≤ _ at hmem; omega)) [] rfl rfl trivial ?_⟩
  rintro e H3 G' hle3 ⟨rfl, hg, rfl⟩
  obtain ⟨k3, y3, t3, A3, n3, c3, B3, m3, d3, hk3, rfl⟩ := rg_cells hg
  generalize gk j = g at *
  obtain ⟨g1, g2⟩ := g
  change k3 = g1 at hk3
  subst hk3
  (conv => whnf)
  refine br.of (fun h1 => ?_) (fun h1 => ?_) <;> (conv => whnf)
  · cases g2 <;> (conv => whnf)
    · refine ⟨?_, rfl⟩
      show _ = SE.ret (pv (.bool ((er == 0) && (false && _))))
      rw [h1]; rfl
    · refine ⟨?_, rfl⟩
      show _ = SE.ret (pv (.bool ((er == 0) && (true && (k3 == 4)))))
      rw [h1]; rfl
  · refine ⟨?_, rfl⟩
    show _ = SE.ret (pv (.bool ((er == 0) && (g2 && (k3 == 4)))))
    rw [h1]; rfl
def verdP (st : Int) (bs : List UInt8) : Int := if st = 202 then 1 else if st = 400 ∧ saidP bs = true then 2 else 3
theorem verdict_ (st : Int) (bs : List UInt8) (A : Option Addr) (n cap : Nat) (H : Hp) (hb : BytesZ H A n bs) (hn : n ≤ 100000) : CallO Try.prog 7 [pv (.int .i64 st), pv (.slice A n cap)] H [] fun e _ G' => e = .ret (pv (.int .i64 (verdP st bs))) ∧ G' = [] := by
  refine CallO.of_body tab Try.func7 rfl (nt := Try.f7.ntmps) rfl (by kernel_rfl) ?_
  (conv => whnf)
  refine br.of (fun h1 => ?_) (fun h1 => ?_) <;> (conv => whnf)
  · simp only [beq_iff_eq] at h1
    exact ⟨by unfold verdP; rw [if_pos h1]; rfl, rfl⟩
  simp only [beq_eq_false_iff_ne, ne_eq] at h1
  refine br.of (fun h2 => ?_) (fun h2 => ?_) <;> (conv => whnf)
  · simp only [beq_iff_eq] at h2
    refine ⟨⟨_, Try.func16, rfl, by kernel_rfl⟩, CallS.use (said_ bs A n cap H hb hn) [] rfl rfl trivial ?_⟩
    rintro e H2 G' hle ⟨rfl, rfl⟩
    cases hs : saidP bs <;> (conv => whnf)
    · exact ⟨by unfold verdP; rw [if_neg h1, if_neg (by rw [hs]; exact fun h => (nomatch h.2))]; rfl, rfl⟩
    · exact ⟨by unfold verdP; rw [if_neg h1, if_pos ⟨h2, hs⟩]; rfl, rfl⟩
  · simp only [beq_eq_false_iff_ne, ne_eq] at h2
    exact ⟨by unfold verdP; rw [if_neg h1, if_neg (fun h => h2 h.1)]; rfl, rfl⟩
theorem verdicts (st : Int) (bs : List UInt8) (A : Option Addr) (n cap : Nat) (H : Hp) (hb : BytesZ H A n bs) : CallO Try.prog 3 [pv (.int .i64 st), pv (.slice A n cap)] H [] fun e _ _ => e = .ret (pv (.bool true)) := by
  have hlen := hb.1
  have hmem := parseP_mems bs 4
  refine CallO.of_body tab Try.func3 rfl (nt := Try.f3.ntmps) rfl (by kernel_rfl) ?_
  (conv => whnf)
  refine ⟨⟨_, Try.func4, rfl, by kernel_rfl⟩, CallS.use (Push.anchor H) [] rfl rfl trivial ?_⟩
  rintro e H0 G' hle0 ⟨rfl, rfl⟩
  generalize hnI : ((n : Nat) : Int) = nI
  (conv => whnf)
  refine br.of (fun h0 => ?_) (fun h0 => ?_) <;> (conv => whnf)
  · rfl
  have h0 := of_decide_eq_false h0
  have hn : n ≤ 100000 := by omega
  have hb0 := hb.mono hle0
  refine ⟨⟨_, Try.func5, rfl, by kernel_rfl⟩, CallS.use (parse_ bs A n cap 4 H0 hb0 hn) [] rfl rfl trivial ?_⟩
  rintro e H2 G' hle ⟨⟨k, y, t, A2, n2, c2, B, m, f, rfl, hj⟩, rfl⟩
  have hsaid : saidP bs = (((parseP bs 4).2.1 == 0) && ((gk (parseP bs 4).1).2 && ((gk (parseP bs 4).1).1 == 4))) := rfl
  generalize parseP bs 4 = x at *
  obtain ⟨j, er, at_⟩ := x
  (conv => whnf)
  refine ⟨⟨_, Try.func6, rfl, by kernel_rfl⟩, CallS.use (get_ j k y t A2 n2 c2 B m f errB H2 hj (by change List.length j.mems ≤ _ at hmem; show List.length j.mems ≤ _; omega)) [] rfl rfl trivial ?_⟩
  rintro e H3 G' hle3 ⟨rfl, hg, rfl⟩
  obtain ⟨k3, y3, t3, A3, n3, c3, B3, m3, d3, hk3, rfl⟩ := rg_cells hg
  replace hsaid : saidP bs = ((er == 0) && ((gk j).2 && ((gk j).1 == 4))) := hsaid
  generalize gk j = g at *
  obtain ⟨g1, g2⟩ := g
  change k3 = g1 at hk3
  subst hk3
  (conv => whnf)
  have hb3 := hb0.mono (hle.trans hle3)
  have fin : ∀ (w : Int), w = verdP st bs → (verdP st bs == w) = true := fun w h => by rw [h]; simp
  have ret_true : ∀ {b : Bool}, b = true → SE.ret (pv (.bool b)) = SE.ret (pv (.bool true)) := fun h => by rw [h]
  refine br.of (fun h1 => ?_) (fun h1 => ?_) <;> (conv => whnf)
  · refine br.of (fun h2 => ?_) (fun h2 => ?_) <;> (conv => whnf)
    · cases g2 <;> (conv => whnf)
      · skip
        refine br.of (fun h9 => ?_) (fun h9 => ?_) <;> (conv => whnf)
        all_goals
          refine ⟨⟨_, Try.func7, rfl, by kernel_rfl⟩, CallS.use (verdict_ st bs A n cap _ hb3 hn) [] rfl rfl trivial ?_⟩
          rintro e H4 G' hle4 ⟨rfl, rfl⟩
          (conv => whnf)
          refine ret_true (fin _ ?_)
          unfold verdP
          rw [hsaid]
          simp only [beq_iff_eq, beq_eq_false_iff_ne, ne_eq] at *
          simp_all
      · refine br.of (fun h3 => ?_) (fun h3 => ?_) <;> (conv => whnf)
        · skip
          refine br.of (fun h9 => ?_) (fun h9 => ?_) <;> (conv => whnf)
          all_goals
            refine ⟨⟨_, Try.func7, rfl, by kernel_rfl⟩, CallS.use (verdict_ st bs A n cap _ hb3 hn) [] rfl rfl trivial ?_⟩
            rintro e H4 G' hle4 ⟨rfl, rfl⟩
            (conv => whnf)
            refine ret_true (fin _ ?_)
            unfold verdP
            rw [hsaid]
            simp only [beq_iff_eq, beq_eq_false_iff_ne, ne_eq] at *
            simp_all
        · skip
          refine br.of (fun h9 => ?_) (fun h9 => ?_) <;> (conv => whnf)
          all_goals
            refine ⟨⟨_, Try.func7, rfl, by kernel_rfl⟩, CallS.use (verdict_ st bs A n cap _ hb3 hn) [] rfl rfl trivial ?_⟩
            rintro e H4 G' hle4 ⟨rfl, rfl⟩
            (conv => whnf)
            refine ret_true (fin _ ?_)
            unfold verdP
            rw [hsaid]
            simp only [beq_iff_eq, beq_eq_false_iff_ne, ne_eq] at *
            simp_all
    · skip
      refine br.of (fun h9 => ?_) (fun h9 => ?_) <;> (conv => whnf)
      all_goals
        refine ⟨⟨_, Try.func7, rfl, by kernel_rfl⟩, CallS.use (verdict_ st bs A n cap _ hb3 hn) [] rfl rfl trivial ?_⟩
        rintro e H4 G' hle4 ⟨rfl, rfl⟩
        (conv => whnf)
        refine ret_true (fin _ ?_)
        unfold verdP
        rw [hsaid]
        simp only [beq_iff_eq, beq_eq_false_iff_ne, ne_eq] at *
        simp_all
  · skip
    refine br.of (fun h9 => ?_) (fun h9 => ?_) <;> (conv => whnf)
    all_goals
      refine ⟨⟨_, Try.func7, rfl, by kernel_rfl⟩, CallS.use (verdict_ st bs A n cap _ hb3 hn) [] rfl rfl trivial ?_⟩
      rintro e H4 G' hle4 ⟨rfl, rfl⟩
      (conv => whnf)
      refine ret_true (fin _ ?_)
      unfold verdP
      rw [hsaid]
      simp only [beq_iff_eq, beq_eq_false_iff_ne, ne_eq] at *
      simp_all
end Go.Kx.Ver
