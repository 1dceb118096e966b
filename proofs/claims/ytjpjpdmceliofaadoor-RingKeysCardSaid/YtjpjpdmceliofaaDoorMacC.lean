/- Codes, keys spread. No condition of its own. -/
import Derived.Test.YtjpjpdmceliofaaDoorMacB
namespace Go.Kx.Sha
open Go.Proofs Go.Kx
set_option maxRecDepth 20000
open MacB in
theorem padF (key : List UInt8) (x : UInt8) (A : Option Addr) (n cap : Nat) (H : Hp) (hk : BytesAt H A n key) (hn : n ≤ 1000000) :
    CallO Tryd.prog 88 [pv (.slice A n cap), pv (.int .u8 x.toNat)] H [] fun e H' G' => RetB (padB key x) e H' ∧ G' = [] :=
  CallO.bytes (by unfold padB; rw [List.length_map, padBase_length]) (pad0 key x A n cap H hk hn)
theorem padB_length (key : List UInt8) (x : UInt8) : (padB key x).length = 64 := by unfold padB; rw [List.length_map, padBase_length]
/-- HMAC. -/
def hmac (key msg : List UInt8) : List UInt8 := sha (padB key 0x5c ++ sha (padB key 0x36 ++ msg))
theorem code (key : List UInt8) (ps : List (List UInt8)) (A B : Option Addr) (n cap m c : Nat) (H : Hp) (hk : BytesAt H A n key) (hp : PartsAt H B m ps) (hn : n ≤ 1000000) (hm : m ≤ 1000000) (hl : ps.flatten.length ≤ 100000000) :
    CallO Tryd.prog 53 [pv (.slice A n cap), pv (.slice B m c)] H [] fun e H' G' => RetB (hmac key ps.flatten) e H' ∧ G' = [] := by
  refine CallO.of_body MacB.tab Tryd.func53 rfl (nt := Tryd.f53.ntmps) rfl (by kernel_rfl) ?_
  conv => whnf
  refine ⟨⟨_, Tryd.func86, rfl, by kernel_rfl⟩, CallS.use (new_ H) [] rfl rfl trivial ?_⟩
  rintro e H' G' hle ⟨rfl, rfl, rfl⟩
  conv => whnf
  refine ⟨⟨_, Tryd.func88, rfl, by kernel_rfl⟩, CallS.use (padF key 0x36 A n cap H' hk hn) [] rfl rfl trivial ?_⟩
  rintro e H2 G' hle2 ⟨⟨A2, n2, c2, rfl, hb2⟩, rfl⟩
  conv => whnf
  refine ⟨⟨_, Tryd.func87, rfl, by kernel_rfl⟩, CallS.use (write [] (padB key 0x36) A2 n2 c2 H2 hb2 (by rw [hb2.1, padB_length]; decide)) [0, 1] rfl rfl ⟨rfl, rfl, trivial⟩ ?_⟩
  rintro e H3 G' hle3 ⟨rfl, rfl, rfl⟩
  conv => whnf
  rw [List.nil_append]
  have hpl := hp.length
  have hpd := padB_length key 0x36
  refine WS.loop (fun k F H4 G => ∃ i : Nat, i ≤ m ∧ k = m - i ∧ F = [(0, pv (.slice A n cap)), (5, .si (.ce (.ptr 0 0))), (13, pv (.slice B m c)), (14, pv (.int .i64 m)), (15, pv (.int .i64 i))] ∧ H'.Le H4 ∧ G = [hBox 1 (padB key 0x36 ++ upto ps i), hRow (padB key 0x36 ++ upto ps i)]) (m + 1) ?_ ?_
  · refine ⟨m, by omega, _, _, [0, 2], ⟨0, by omega, rfl, rfl, hle2, rfl⟩, ?_⟩
    exact ⟨rfl, ⟨by show _ = hBox 2 _; rw [show upto ps 0 = [] from rfl, List.append_nil]; rfl, by rw [show upto ps 0 = [] from rfl, List.append_nil]; rfl, trivial⟩, rfl, rfl, rfl, rfl, rfl, trivial⟩
  rintro k F H4 G hle4 ⟨i, hi, rfl, rfl, hle5, rfl⟩
  refine codeL.go MacB.tab ?_
  conv => whnf
  refine br.of (fun h1 => ?_) (fun h1 => ?_) <;> conv => whnf
  · simp only [decide_eq_true_eq] at h1
    have hx : ps[i]? = some ps[i] := List.getElem?_eq_getElem (by omega)
    obtain ⟨C, q, r, hrd, hb⟩ := (hp.mono hle5).get hx rfl
    have hu := upto_succ hx
    have hul := upto_le ps (i + 1)
    rw [hu, List.length_append] at hul
    refine ⟨⟨by omega, h1⟩, hp.addr, ?_⟩
    conv => whnf
    refine ⟨.slice C q r, by simpa using hrd, ?_⟩
    conv => whnf
    refine ⟨⟨_, Tryd.func87, rfl, by kernel_rfl⟩, CallS.use (write (padB key 0x36 ++ upto ps i) ps[i] C q r H4 hb (by rw [hb.1, List.length_append, hpd]; omega)) [0, 1] rfl rfl ⟨rfl, rfl, trivial⟩ ?_⟩
    rintro e H5 G' hle6 ⟨rfl, rfl, rfl⟩
    conv => whnf
    rw [wrap64 (x := (i : Int) + 1) (by omega) (by omega)]
    refine ⟨m - (i + 1), by omega, _, _, [0, 2], ⟨i + 1, by omega, rfl, rfl, hle5, rfl⟩, ?_⟩
    refine ⟨rfl, ⟨?_, ?_, trivial⟩, rfl, rfl, rfl, rfl, rfl, trivial⟩
    · rw [hu, ← List.append_assoc]; rfl
    · rw [hu, ← List.append_assoc]; rfl
  · simp only [decide_eq_false_iff_not] at h1
    rw [upto_all (ps := ps) (i := i) (by omega)]
    refine ⟨⟨_, Tryd.func88, rfl, by kernel_rfl⟩, CallS.use (padF key 0x5c A n cap H4 (hk.mono hle5) hn) [] rfl rfl trivial ?_⟩
    rintro e H5 G' hle6 ⟨⟨A3, n3, c3, rfl, hb3⟩, rfl⟩
    conv => whnf
    refine ⟨⟨_, Tryd.func90, rfl, by kernel_rfl⟩, CallS.use (sumF (padB key 0x36 ++ ps.flatten) H5 (by rw [List.length_append, hpd]; omega)) [0, 1] rfl rfl ⟨rfl, rfl, trivial⟩ ?_⟩
    rintro e H6 G' hle7 ⟨⟨A4, n4, c4, rfl, hb4⟩, rfl⟩
    conv => whnf
    refine ⟨by decide, .inl ?_⟩
    intro g H7 hle8 hrd
    conv => whnf
    have hps : PartsAt H7 (some ⟨g, 0, none⟩) 2 [padB key 0x5c, sha (padB key 0x36 ++ ps.flatten)] := ⟨_, rfl, hrd, .cons ⟨A3, n3, c3, rfl, hb3.mono (hle7.trans hle8)⟩ (.cons ⟨A4, n4, c4, rfl, hb4.mono hle8⟩ .nil)⟩
    refine ⟨⟨_, Tryd.func89, rfl, by kernel_rfl⟩, CallS.use (sumAll _ _ 2 2 H7 hps (by simp [padB_length, sha_length]) (by decide)) [] rfl rfl trivial ?_⟩
    rintro e H8 G' hle9 ⟨⟨A5, n5, c5, rfl, hb5⟩, rfl⟩
    conv => whnf
    have e0 : [padB key 0x5c, sha (padB key 0x36 ++ ps.flatten)].flatten = padB key 0x5c ++ sha (padB key 0x36 ++ ps.flatten) := by simp
    rw [e0] at hb5
    exact ⟨⟨A5, n5, c5, rfl, hb5⟩, rfl⟩
end Go.Kx.Sha
