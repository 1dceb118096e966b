/- The reference's keys of a ring. No condition of its own. -/
import Derived.Test.YtjpjpdmceliofaaDoorRef2B
import Derived.Test.YtjpjpdmceliofaaDoorRingC
namespace Go.Kx.Ring
open Go.Proofs Go.Kx Go.Kx.Sha Go.Kx.Lb
set_option maxRecDepth 20000
namespace Ref14
def T : Tab := [(3, { k := TK.int IntKind.i64, agg := false, size := 1, bytes := 8, zero := [Z.i IntKind.i64] }), (29, { k := TK.slice 9, agg := false, size := 1, bytes := 24, zero := [Z.sl] }), (4, { k := TK.bool, agg := false, size := 1, bytes := 1, zero := [Z.b] }), (9, { k := TK.string, agg := false, size := 1, bytes := 16, zero := [Z.s] }), (22, { k := TK.slice 5, agg := false, size := 1, bytes := 24, zero := [Z.sl] }), (5, { k := TK.int IntKind.u8, agg := false, size := 1, bytes := 1, zero := [Z.i IntKind.u8] })]
set_option maxRecDepth 100000 in
theorem tab : TabOk Tryd.prog T := tabOk_mk (ts := [3, 29, 4, 9, 22, 5]) (by kernel_rfl)
theorem itoa_nat (n : Nat) : Lib.itoa (n : Int) = Lib.decDigits n := by
  unfold Lib.itoa
  rw [if_neg (by omega), Int.toNat_natCast]
def digB (d : Nat) : ByteArray := ⟨#[UInt8.ofNat (48 + d)]⟩
theorem dig_cells (d : Nat) (hd : d < 10) {x : Int} (hx : x = (d : Int)) : byteCells (digB d) = [Value.int .u8 (IntKind.u8.wrap (IntKind.i64.wrap (48 + x)))] := by
  subst hx
  rw [wrap64 (by omega) (by omega), wrap8, byteCells_map]
  show [Value.int .u8 ((UInt8.ofNat (48 + d)).toNat : Int)] = _
  rw [UInt8.toNat_ofNat']
  congr 2
theorem itoaB_one (n : Nat) (h : n < 10) : itoaB n = digB n := by
  unfold itoaB digB
  rw [itoa_nat, Lib.decDigits_one h]
theorem itoaB_snoc (n : Nat) (h : ¬ n < 10) : itoaB n = itoaB (n / 10 : Nat) ++ digB (n % 10) := by
  unfold itoaB digB
  rw [itoa_nat, itoa_nat, decDigits_big h]
  apply ByteArray.ext
  rw [ByteArray.data_append]
  simp
theorem digits (n : Nat) (hn : n ≤ 1000000000000000) (H : Hp) : CallO Tryd.prog 21 [pv (.int .i64 n)] H [] fun e _ G' => e = .ret (pv (.string (itoaB n))) ∧ G' = [] := by
  induction n using Nat.strongRecOn generalizing H with
  | _ n ih =>
    refine CallO.of_body tab Tryd.func21 rfl (nt := Tryd.f21.ntmps) rfl (by kernel_rfl) ?_
    conv => whnf
    refine br.of (fun h1 => ?_) (fun h1 => ?_) <;> conv => whnf
    · simp only [decide_eq_true_eq] at h1
      refine ⟨by decide, .inl ?_⟩
      intro g H2 hle hrd
      conv => whnf
      refine ⟨digB n, rfl, by rw [dig_cells n (by omega) rfl]; exact hrd, ?_⟩
      conv => whnf
      exact ⟨by rw [itoaB_one n (by omega)]; rfl, rfl⟩
    · simp only [decide_eq_false_iff_not] at h1
      have h10 : ¬ n < 10 := by omega
      have hd : (n : Int).tdiv 10 = ((n / 10 : Nat) : Int) := by rw [Int.tdiv_eq_ediv_of_nonneg (by omega)]; omega
      have hm : (n : Int).tmod 10 = ((n % 10 : Nat) : Int) := by rw [Int.tmod_eq_emod_of_nonneg (by omega)]; omega
      have hdw : IntKind.i64.wrap ((n : Int).tdiv 10) = ((n / 10 : Nat) : Int) := by rw [hd, wrap64 (by omega) (by omega)]
      have hi := itoa_size ((n / 10 : Nat) : Int) (by omega) (by omega)
      refine WS.draw tab mixed (.take 0 (.take 1 (.take 3 (.take 4 (.take 5 (.take 6 (.alt 2 (.alt 7 (.alt 8 (.take 9 (.take 10 .done)) .no) .no) (.alt 7 (.alt 2 (.alt 8 (.take 9 (.take 10 .done)) .no) (.alt 8 (.alt 2 (.take 9 (.take 10 .done)) .no) .no)) .no)))))))) (by kernel_rfl) [] ?_
      conv => whnf
      refine ⟨by decide, ?_⟩
      conv => whnf
      refine ⟨by decide, ?_⟩
      conv => whnf
      rw [hdw, hm]
      conv => whnf
      repeat' (first
        | exact trivial
        | exact rfl
        | exact ⟨_, Tryd.func21, rfl, by kernel_rfl⟩
        | (refine CallS.use (ih (n / 10) (by omega) (by omega) _) [] rfl rfl trivial ?_; rintro e H' G' hle ⟨rfl, rfl⟩; conv => whnf)
        | (refine ⟨by decide, .inl ?_⟩; intro g H2 hle2 hrd; conv => whnf)
        | (refine ⟨digB (n % 10), rfl, by rw [dig_cells (n % 10) (by omega) rfl]; exact hrd, ?_⟩; conv => whnf)
        | (refine ⟨digB (n % 10), rfl, by rw [dig_cells (n % 10) (by omega) rfl]; exact hrd.mono hle, ?_⟩; conv => whnf)
        | (refine ⟨by show _ + 1 ≤ _; omega, ?_⟩; conv => whnf)
        | exact ⟨by rw [itoaB_snoc n h10]; rfl, rfl⟩
        | (refine And.intro ?_ ?_ <;> conv => whnf))
theorem digits_ (v : Int) (h0 : 0 ≤ v) (hn : v ≤ 1000000000000000) (H : Hp) : CallO Tryd.prog 21 [pv (.int .i64 v)] H [] fun e _ G' => e = .ret (pv (.string (itoaB v))) ∧ G' = [] := by
  obtain ⟨n, rfl⟩ : ∃ n : Nat, v = n := ⟨v.toNat, by omega⟩
  exact digits n (by omega) H
def KI (count : Int) (H2 : Hp) (k : Nat) (F : Fr) (H3 : Hp) (G : List SB) : Prop :=
  ∃ i : Nat, (i : Int) ≤ count - oldest count + 1 ∧ k = 10 - i ∧ F = [(0, pv (.int .i64 count)), (4, .si (.ce (.self 0))), (5, pv (.int .i64 (oldest count + i)))] ∧ H2.Le H3 ∧ G = [.row 9 1 i (strV (kidsUp count i))]
theorem kids0 (count : Int) (hc : 1 ≤ count) (hc2 : count ≤ 1099511627776) (H : Hp) : CallO Tryd.prog 9 [pv (.int .i64 count)] H [] fun e _ G' =>
    e = .ret (.si (.ce (.self 0))) ∧ G' = [.row 9 1 (kidsB count).length (strV (kidsB count))] := by
  refine CallO.of_body tab Tryd.func9 rfl (nt := Tryd.f9.ntmps) rfl (by kernel_rfl) ?_
  conv => whnf
  rw [wrap64 (x := count - 7) (by omega) (by omega)]
  obtain ⟨o1, o2, o3⟩ := oldest_le count hc
  have ho : oldest count = if count - 7 < 1 then 1 else count - 7 := by unfold oldest maxB; split <;> split <;> omega
  refine br.of (fun h0 => ?_) (fun h0 => ?_) <;> conv => whnf
  · simp only [decide_eq_true_eq] at h0
    rw [if_pos h0] at ho
    refine WS.nilRow 4 9 1 rfl ?_
    conv => whnf
    refine WS.loop (KI count H) 11 ?_ ?_
    · refine ⟨10, by omega, _, _, [0], ⟨0, by omega, rfl, rfl, .refl _, rfl⟩, ?_⟩
      refine ⟨rfl, ⟨rfl, trivial⟩, rfl, rfl, ?_, trivial⟩
      rw [ho]
      simp [SV.ren, pv, SG.ren, SC.ren, getX]
    clear ho h0
    rintro k F H3 G hle2 ⟨i, hi, rfl, rfl, hle3, rfl⟩
    refine codeL.go tab ?_
    conv => whnf
    refine br.of (fun h1 => ?_) (fun h1 => ?_) <;> conv => whnf
    · simp only [decide_eq_true_eq] at h1
      refine ⟨⟨_, Tryd.func21, rfl, by kernel_rfl⟩, CallS.use (digits_ (oldest count + i) (by omega) (by omega) H3) [] rfl rfl trivial ?_⟩
      rintro e H4 G' hle4 ⟨rfl, rfl⟩
      conv => whnf
      have hs := itoa_size (oldest count + i) (by omega) (by omega)
      refine ⟨by show 1 + _ ≤ _; omega, ?_⟩
      conv => whnf
      refine ⟨by decide, .inl ?_⟩
      intro g H5 hle5 hrd
      conv => whnf
      refine ⟨_, rfl, hrd, fun u hu => by rcases List.mem_singleton.1 hu with rfl; rfl, ?_⟩
      conv => whnf
      refine ⟨by show _ * 17 ≤ _; omega, ?_⟩
      conv => whnf
      rw [wrap64 (x := oldest count + i + 1) (by omega) (by omega)]
      refine ⟨10 - (i + 1), by omega, _, _, [1], ⟨i + 1, by omega, rfl, rfl, hle3.trans (hle4.trans hle5), rfl⟩, ?_⟩
      refine ⟨rfl, ⟨?_, trivial⟩, rfl, rfl, ?_, trivial⟩
      · rw [kidsUp_succ]
        show SB.row _ 1 (i + 1) (strV (kidsUp count i) ++ [.string _]) = SB.row _ 1 (i + 1) (strV (kidsUp count i ++ [_]))
        unfold strV
        rw [List.map_append]; rfl
      · show pv _ = pv _
        congr 2; omega
    · simp only [decide_eq_false_iff_not] at h1
      have hi2 : i = (count - oldest count + 1).toNat := by omega
      subst hi2
      refine ⟨rfl, ?_⟩
      have : (kidsB count).length = (count - oldest count + 1).toNat := by unfold kidsB; simp
      rw [this]; rfl
  · simp only [decide_eq_false_iff_not] at h0
    rw [if_neg h0] at ho
    refine WS.nilRow 4 9 1 rfl ?_
    conv => whnf
    refine WS.loop (KI count H) 11 ?_ ?_
    · refine ⟨10, by omega, _, _, [0], ⟨0, by omega, rfl, rfl, .refl _, rfl⟩, ?_⟩
      refine ⟨rfl, ⟨rfl, trivial⟩, rfl, rfl, ?_, trivial⟩
      rw [ho]
      simp [SV.ren, pv, SG.ren, SC.ren, getX]
    clear ho h0
    rintro k F H3 G hle2 ⟨i, hi, rfl, rfl, hle3, rfl⟩
    refine codeL.go tab ?_
    conv => whnf
    refine br.of (fun h1 => ?_) (fun h1 => ?_) <;> conv => whnf
    · simp only [decide_eq_true_eq] at h1
      refine ⟨⟨_, Tryd.func21, rfl, by kernel_rfl⟩, CallS.use (digits_ (oldest count + i) (by omega) (by omega) H3) [] rfl rfl trivial ?_⟩
      rintro e H4 G' hle4 ⟨rfl, rfl⟩
      conv => whnf
      have hs := itoa_size (oldest count + i) (by omega) (by omega)
      refine ⟨by show 1 + _ ≤ _; omega, ?_⟩
      conv => whnf
      refine ⟨by decide, .inl ?_⟩
      intro g H5 hle5 hrd
      conv => whnf
      refine ⟨_, rfl, hrd, fun u hu => by rcases List.mem_singleton.1 hu with rfl; rfl, ?_⟩
      conv => whnf
      refine ⟨by show _ * 17 ≤ _; omega, ?_⟩
      conv => whnf
      rw [wrap64 (x := oldest count + i + 1) (by omega) (by omega)]
      refine ⟨10 - (i + 1), by omega, _, _, [1], ⟨i + 1, by omega, rfl, rfl, hle3.trans (hle4.trans hle5), rfl⟩, ?_⟩
      refine ⟨rfl, ⟨?_, trivial⟩, rfl, rfl, ?_, trivial⟩
      · rw [kidsUp_succ]
        show SB.row _ 1 (i + 1) (strV (kidsUp count i) ++ [.string _]) = SB.row _ 1 (i + 1) (strV (kidsUp count i ++ [_]))
        unfold strV
        rw [List.map_append]; rfl
      · show pv _ = pv _
        congr 2; omega
    · simp only [decide_eq_false_iff_not] at h1
      have hi2 : i = (count - oldest count + 1).toNat := by omega
      subst hi2
      refine ⟨rfl, ?_⟩
      have : (kidsB count).length = (count - oldest count + 1).toNat := by unfold kidsB; simp
      rw [this]; rfl
theorem kids (count : Int) (hc : 1 ≤ count) (hc2 : count ≤ 1099511627776) (H : Hp) : CallO Tryd.prog 9 [pv (.int .i64 count)] H [] fun e H' G' =>
    (∃ B m c, e = .ret (pv (.slice B m c)) ∧ VAt H' B m (strV (kidsB count))) ∧ G' = [] := by
  refine CallO.sub (CallO.frz (K := fun e H' G' => (∃ B m c, e = .ret (pv (.slice B m c)) ∧ VAt H' B m (strV (kidsB count))) ∧ G' = [.dead]) (kids0 count hc hc2 H) ?_) ?_
  · rintro e H' G' hle ⟨rfl, rfl⟩
    refine ⟨0, 9, 1, _, _, rfl, fun h0 => ?_, fun x H2 hle2 hfr => ?_⟩
    · have : kidsB count = [] := List.eq_nil_of_length_eq_zero h0
      rw [this]; rfl
    · obtain ⟨B, c, rfl, hv⟩ := VAt.of_frozen (by unfold strV; simp) hfr
      exact ⟨⟨B, _, c, rfl, hv⟩, rfl⟩
  · rintro e H' G' hle ⟨⟨B, m, c, rfl, hv⟩, rfl⟩
    exact ⟨_, [], [], rfl, trivial, rfl, ⟨B, m, c, rfl, hv⟩, rfl⟩
theorem key (ms : List UInt8) (A : Option Addr) (n cap : Nat) (kid : ByteArray) (H : Hp) (hb : BytesAt H A n ms) (hn : n ≤ 100000) (hk : kid.size ≤ 100) : CallO Tryd.prog 13 [pv (.slice A n cap), pv (.string kid)] H [] fun e _ G' =>
    e = .ret (.si (.ce (.self 0))) ∧ G' = [.row 5 1 32 (bCells (hkdf ms (infoB kid)))] := by
  refine CallO.of_body tab Tryd.func13 rfl (nt := Tryd.f13.ntmps) rfl (by kernel_rfl) ?_
  conv => whnf
  refine ⟨by show 4 + _ ≤ _; omega, ?_⟩
  conv => whnf
  have hsz := info_size kid
  have hsl : (infoB kid).length = 4 + kid.size := by unfold infoB; rw [List.length_append]; rfl
  intro g c H2 hle hc hrd
  rw [info_cells] at hrd
  conv => whnf
  refine ⟨⟨_, Tryd.func26, rfl, by kernel_rfl⟩, CallS.use (Ref2.expand ms (infoB kid) A (some ⟨g, 0, none⟩) n cap _ c H2 (hb.mono hle) (BytesAt.lit hsz hrd) hn (by omega)) [] rfl rfl trivial ?_⟩
  rintro e H3 G' hle2 ⟨rfl, rfl⟩
  conv => whnf
  exact ⟨rfl, rfl⟩
end Ref14
end Go.Kx.Ring
