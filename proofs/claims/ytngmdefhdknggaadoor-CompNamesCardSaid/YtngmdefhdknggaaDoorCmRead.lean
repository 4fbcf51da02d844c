/- comp.Read, walked. -/
import Derived.Test.YtngmdefhdknggaaDoorNm
import Derived.Test.YtngmdefhdknggaaDoorCurAny
import Derived.Test.YtngmdefhdknggaaDoorAppT
import Derived.Laws.BitsAllLaws
namespace Go.Proofs.YtngmdefhdknggaaDoor.Cm
open Go.RowKit Go.Proofs.YtngmdefhdknggaaDoor.Cur Go.Proofs.YtngmdefhdknggaaDoor.Put Go.Proofs.YtngmdefhdknggaaDoor.Nm

theorem mask_all : ∀ k : Fin 256, k.val &&& 192 = k.val / 64 * 64 := of_decide_eq_true (by kernel_rfl)
theorem mask_k (k : Nat) (hk : k < 256) : bits .and .u8 (k : Int) 192 = ((k / 64 * 64 : Nat) : Int) := by
  have h := u8_and_nat k 192 hk (by omega)
  rw [mask_all ⟨k, hk⟩] at h
  exact h
theorem low_all : ∀ k : Fin 256, 192 ≤ k.val → bits .andNot .u8 (k.val : Int) 192 = ((k.val - 192 : Nat) : Int) := of_decide_eq_true (by kernel_rfl)
theorem i64_or_nat0 (a b : Nat) (ha : a < 9223372036854775808) (hb : b < 9223372036854775808) : bits .or .i64 (a : Int) (b : Int) = ((a ||| b : Nat) : Int) := by
  have hx : a ||| b < 2 ^ 63 := Nat.or_lt_two_pow (by omega) (by omega)
  show IntKind.i64.wrap ((BitVec.ofInt 64 (a : Int) ||| BitVec.ofInt 64 (b : Int)).toNat : Int) = _
  rw [BitVec.toNat_or, ofInt_u64 a (by omega), ofInt_u64 b (by omega), IntKind.wrap_i64]
  omega
theorem or_place (k j : Nat) (hk : k < 64) (hj : j < 256) : bits .or .i64 ((k : Int) * 256) (j : Int) = ((k * 256 + j : Nat) : Int) := by
  have h := i64_or_nat0 (k * 256) j (by omega) (by omega)
  rw [nat_join 8 (k * 256) j (by omega) (by omega)] at h
  rw [show (k : Int) * 256 = ((k * 256 : Nat) : Int) by omega]
  exact h
theorem bt_be (s : ByteArray) (q : Nat) : bt s.data.toList q = be s q 1 := by rw [be_one]; rfl

set_option maxRecDepth 100000 in
set_option maxHeartbeats 4000000 in
theorem read_any (w : World) (s : ByteArray) (i : Int) (hs : s.size ≤ 140737488351232) (hg : As.Laid w) :
    Calls Tryd.prog 17 #[.string s, .int .i64 i] w fun e w' => e = .returned (.tuple #[.string (ba (rdTop s.data.toList i).1), .int .i64 ((rdTop s.data.toList i).2.1 : Int), .int .i64 ((rdTop s.data.toList i).2.2 : Int)]) ∧ Chg Nob w w' := by
  have HG := Lib.hid hg
  clear hg
  have hlen : s.data.toList.length = s.size := by rw [Array.length_toList]; rfl
  by_cases hi : i < 0 ∨ (s.size : Int) < i
  · have hr : rdTop s.data.toList i = ([], 0, 1) := by unfold rdTop; rw [hlen, if_pos hi]
    rw [hr]
    clear hr
    go_enter Tryd.func17, Tryd.ntmps17
    go_wp2_with fail
    refine (new_any s w (by omega)).mono ?_
    rintro r w1 ⟨g, rfl, hg, hA1, hC1⟩
    go_wp2_with fail
    refine (seek_no w1 g s 0 i hA1 hi).mono ?_
    rintro r w2 ⟨rfl, rfl⟩
    go_wp2_with fail
    (try simp only [Exit.inBlock, Exit.then])
    exact bodyPost_ret (v := .tuple #[.string ⟨#[]⟩, .int .i64 0, .int .i64 1]) (by simp [results, Tryd.results17, go_sem]) rfl ⟨rfl, hC1⟩
  · obtain ⟨p, rfl⟩ := Int.eq_ofNat_of_zero_le (show 0 ≤ i by omega)
    have hp : p ≤ s.size := by omega
    have hr : rdTop s.data.toList (p : Int) = rd s.data.toList (p + 256) p p [] none := by
      unfold rdTop
      rw [hlen, if_neg hi]
      rfl
    rw [hr]
    obtain ⟨R, hR⟩ : ∃ R, R = rd s.data.toList (p + 256) p p [] none := ⟨_, rfl⟩
    rw [← hR]
    have HR := Lib.hid hR
    clear hr hR hi
    go_enter Tryd.func17, Tryd.ntmps17
    go_wp2_with fail
    refine (new_any s w (by omega)).mono ?_
    rintro r w1 ⟨g, rfl, hg, hA1, hC1⟩
    go_wp2_with fail
    refine (seek_ok w1 g s 0 p hA1 hp).mono ?_
    rintro r w2 ⟨rfl, hA2, hC2⟩
    have hD2 := hC1.trans' hC2 (fun j hj => .inr (by have e : j = g := hj; omega))
    have hlt := hC1.size
    have hgl := hA1.lt
    have hw2 := hC2.size
    clear hA1 hC1 hC2
    go_wp2_with fail
    go_loopg [5, 8, 9, 10] (p + 256) (fun f vn vb va vj wx => ∃ (q ah : Nat) (acc : List UInt8) (nx : Option Nat) (a0 : Option Addr) (c0 : Nat),
      vn = .int .i64 ((nx.getD 0 : Nat) : Int) ∧ vb = .slice a0 acc.length c0 ∧ va = .int .i64 (ah : Int) ∧ vj = .bool nx.isSome ∧
      Hid (R = rd s.data.toList f q ah acc nx) ∧ acc.length ≤ 254 ∧ ah ≤ s.size ∧ ah + 255 < f + acc.length ∧ Hid (∀ x, nx = some x → x ≤ s.size) ∧
      wx.ownsRow w1.heap.size 5 1 (.slice a0 acc.length c0) acc.length (bytesV acc) ∧ w1.heap.size ≤ wx.heap.size ∧ At wx g s q ∧ Chg Nob w wx)
    case atStart => exact ⟨p, p, [], none, none, 0, rfl, rfl, rfl, rfl, HR, by simp, hp, by simp, Lib.hid (fun x h => by cases h), World.ownsRow_nil _ _ _ _, hw2, hA2, hD2⟩
    case round =>
      obtain ⟨q, ah, acc, nx, a0, c0, rfl, rfl, rfl, rfl, HQ, hal, hah, hfu, HNX, hown, hsz, hA, hD⟩ := hrel
      obtain ⟨f, rfl⟩ : ∃ f, gk = f + 1 := ⟨gk - 1, by omega⟩
      have HO := Lib.hid hown
      have hgne : ∀ k, (Value.slice a0 acc.length c0).ownBlock = some k → ¬ Only g k := fun k hk e => by
        have h1 := own_geB hown hk
        have e2 : k = g := e
        omega
      have HG1 := Lib.hid hgne
      clear hown hgne
      by_cases c1 : s.size ≤ q
      · have hrd : rd s.data.toList (f + 1) q ah acc nx = ([], 0, 4) := by rw [rd, if_pos (by rw [hlen]; exact c1)]
        have HE := Lib.hid (HQ.out.trans hrd)
        clear hrd
        go_wp2_with fail
        refine (byte_no wr g s q (HG.out.nob hD) hA (by omega)).mono ?_
        rintro r w3 ⟨rfl, hC3⟩
        go_wp2_with fail
        (try simp only [Exit.inBlock, Exit.then])
        exact bodyPost_ret (v := .tuple #[.string ⟨#[]⟩, .int .i64 0, .int .i64 4]) (by simp [results, Tryd.results17, go_sem]) rfl ⟨by rw [HE.out]; rfl, hD.trans hC3⟩
      obtain ⟨k, hk⟩ : ∃ k, k = be s q 1 := ⟨_, rfl⟩
      have hb := (bt_be s q).trans hk.symm
      have hk8 : k < 256 := by rw [hk]; exact be_lt s q 1
      have hB := byte_ok wr g s q hA (by omega)
      rw [← hk] at hB
      have HB := Lib.hid hB
      have HBT := Lib.hid hb
      have k0 : (0 : Int) ≤ (k : Int) := by omega
      have k1 : (k : Int) ≤ 255 := by omega
      clear hB hb hk
      by_cases c2 : k = 0
      · subst c2
        have hrd : rd s.data.toList (f + 1) q ah acc nx = (acc ++ [0], nx.getD (q + 1), 0) := by rw [rd, if_neg (by rw [hlen]; exact c1), if_pos HBT.out]
        have HE := Lib.hid (HQ.out.trans hrd)
        clear hrd
        go_wp2_with fail
        refine HB.out.mono ?_
        rintro r w3 ⟨rfl, hA3, hC3⟩
        have hO3 := hC3.own HO.out HG1.out
        have hD3 := hD.trans' hC3 (fun j hj => .inr (by have e : j = g := hj; omega))
        have hcv := conv_bytes (BytesAt.of_own hO3)
        obtain ⟨S, hS⟩ : ∃ S : ByteArray, S = ⟨acc.toArray⟩ := ⟨_, rfl⟩
        rw [← hS] at hcv
        have hSs : S.size = acc.length := by rw [hS]; show acc.toArray.size = _; rw [List.size_toArray]
        have hcat : S ++ (⟨#[0]⟩ : ByteArray) = ba (acc ++ [0]) := by
          rw [hS]
          apply ByteArray.ext
          rw [ByteArray.data_append]
          simp [ba]
        have hno : ¬ 9223372036854775807 < S.size + (⟨#[0]⟩ : ByteArray).size := by rw [hSs]; show ¬ 9223372036854775807 < acc.length + 1; omega
        have HCAT := Lib.hid hcat
        have HA3 := Lib.hid hA3
        clear hcat hS hSs hO3 hC3 HB HO HG1 hA3 hA hD
        cases nx with
        | none =>
          go_wp2_with fail
          refine (at_any w3 g s (q + 1) HA3.out).mono ?_
          rintro r w4 ⟨rfl, rfl⟩
          go_wp2_with fail
          (try simp only [Exit.inBlock, Exit.then])
          exact bodyPost_ret (v := .tuple #[.string (S ++ ⟨#[0]⟩), .int .i64 ((q + 1 : Nat) : Int), .int .i64 0]) (by simp [results, Tryd.results17, go_sem]) rfl ⟨by rw [HE.out, HCAT.out]; rfl, hD3⟩
        | some x =>
          go_wp2_with fail
          (try simp only [Exit.inBlock, Exit.then])
          exact bodyPost_ret (v := .tuple #[.string (S ++ ⟨#[0]⟩), .int .i64 (x : Int), .int .i64 0]) (by simp [results, Tryd.results17, go_sem]) rfl ⟨by rw [HE.out, HCAT.out]; rfl, hD3⟩
      have k2 : ((k : Int) == 0) = false := by simp; omega
      have hmask := mask_k k hk8
      by_cases c3 : 192 ≤ k
      · have hm1 : k / 64 * 64 = 192 := by omega
        rw [hm1] at hmask
        have hlow := low_all ⟨k, hk8⟩ c3
        simp only at hlow
        by_cases c4 : s.size < q + 2
        · have hrd : rd s.data.toList (f + 1) q ah acc nx = ([], 0, 4) := by rw [rd, if_neg (by rw [hlen]; exact c1), HBT.out, if_neg c2, if_pos c3, if_pos (by rw [hlen]; omega)]
          have HE := Lib.hid (HQ.out.trans hrd)
          clear hrd
          go_wp2_with fail
          refine HB.out.mono ?_
          rintro r w3 ⟨rfl, hA3, hC3⟩
          have hD3 := hD.trans' hC3 (fun j hj => .inr (by have e : j = g := hj; omega))
          have HA3 := Lib.hid hA3
          clear hC3 HB HO HG1 hA3 hA hD
          go_wp2_with fail
          refine (byte_no w3 g s (q + 1) (HG.out.nob hD3) HA3.out (by omega)).mono ?_
          rintro r w4 ⟨rfl, hC4⟩
          go_wp2_with fail
          (try simp only [Exit.inBlock, Exit.then])
          exact bodyPost_ret (v := .tuple #[.string ⟨#[]⟩, .int .i64 0, .int .i64 4]) (by simp [results, Tryd.results17, go_sem]) rfl ⟨by rw [HE.out]; rfl, hD3.trans hC4⟩
        obtain ⟨j, hj⟩ : ∃ j, j = be s (q + 1) 1 := ⟨_, rfl⟩
        have hbj := (bt_be s (q + 1)).trans hj.symm
        have hj8 : j < 256 := by rw [hj]; exact be_lt s (q + 1) 1
        have j0 : (0 : Int) ≤ (j : Int) := by omega
        have j1 : (j : Int) ≤ 255 := by omega
        have hor := or_place (k - 192) j (by omega) hj8
        obtain ⟨m, hm⟩ : ∃ m, m = k - 192 := ⟨_, rfl⟩
        rw [← hm] at hlow hor
        have m0 : (0 : Int) ≤ (m : Int) := by omega
        have m1 : (m : Int) ≤ 63 := by omega
        obtain ⟨pl, hpl⟩ : ∃ pl, pl = m * 256 + j := ⟨_, rfl⟩
        rw [← hpl] at hor
        have hstep : rd s.data.toList (f + 1) q ah acc nx = if ah ≤ pl then ([], 0, 8) else rd s.data.toList f pl pl acc (some (nx.getD (q + 2))) := by
          rw [rd, if_neg (by rw [hlen]; exact c1), HBT.out, if_neg c2, if_pos c3, if_neg (by rw [hlen]; omega), hbj, ← hm, ← hpl]
        have HST := Lib.hid (HQ.out.trans hstep)
        have hplm : pl ≤ 16383 := by omega
        have HPL := Lib.hid hplm
        clear hstep hpl hm hbj hm1 hplm
        have hB2 := fun W (h : At W g s (q + 1)) => byte_ok W g s (q + 1) h (by omega)
        rw [← hj] at hB2
        have HB2 := Lib.hid hB2
        clear hB2 hj
        go_wp2_with fail
        refine HB.out.mono ?_
        rintro r w3 ⟨rfl, hA3, hC3⟩
        have HO3 := Lib.hid (hC3.own HO.out HG1.out)
        have hD3 := hD.trans' hC3 (fun j hj => .inr (by have e : j = g := hj; omega))
        have HA3 := Lib.hid hA3
        have hsz3 := hC3.size
        clear hC3 HB HO hA3 hA hD
        go_wp2_with fail
        refine (HB2.out w3 HA3.out).mono ?_
        rintro r w4 ⟨rfl, hA4, hC4⟩
        have HO4 := Lib.hid (hC4.own HO3.out HG1.out)
        have hD4 := hD3.trans' hC4 (fun j hj => .inr (by have e : j = g := hj; omega))
        have HA4 := Lib.hid hA4
        have hsz4 := hC4.size
        clear hC4 HB2 HO3 hA4 HA3 hD3
        by_cases c5 : ah ≤ pl
        · have hst := HST.out
          rw [if_pos c5] at hst
          have HE := Lib.hid hst
          have c5i : (ah : Int) ≤ (pl : Int) := by omega
          clear hst HST
          cases nx with
          | none =>
            go_wp2_with fail
            refine (at_any w4 g s (q + 1 + 1) HA4.out).mono ?_
            rintro r w5 ⟨rfl, rfl⟩
            go_wp2_with fail
            (try simp only [Exit.inBlock, Exit.then])
            exact bodyPost_ret (v := .tuple #[.string ⟨#[]⟩, .int .i64 0, .int .i64 8]) (by simp [results, Tryd.results17, go_sem]) rfl ⟨by rw [HE.out]; rfl, hD4⟩
          | some x =>
            go_wp2_with fail
            (try simp only [Exit.inBlock, Exit.then])
            exact bodyPost_ret (v := .tuple #[.string ⟨#[]⟩, .int .i64 0, .int .i64 8]) (by simp [results, Tryd.results17, go_sem]) rfl ⟨by rw [HE.out]; rfl, hD4⟩
        · have hst := HST.out
          rw [if_neg c5] at hst
          have HE := Lib.hid hst
          have c5i : ¬ (ah : Int) ≤ (pl : Int) := by omega
          clear hst HST
          cases nx with
          | none =>
            go_wp2_with fail
            refine (at_any w4 g s (q + 1 + 1) HA4.out).mono ?_
            rintro r w5 ⟨rfl, rfl⟩
            go_wp2_with fail
            refine (seek_ok w4 g s (q + 1 + 1) pl HA4.out (by omega)).mono ?_
            rintro r w5 ⟨rfl, hA5, hC5⟩
            have HO5 := Lib.hid (hC5.own HO4.out HG1.out)
            have hD5 := hD4.trans' hC5 (fun j hj => .inr (by have e : j = g := hj; omega))
            have hsz5 := hC5.size
            go_wp2_with fail
            go_roundg f
            case measure => omega
            case rel => exact ⟨pl, pl, acc, some (q + 2), a0, c0, by simp only [Option.getD_some]; rw [show ((q + 2 : Nat) : Int) = (q : Int) + 1 + 1 by omega], rfl, rfl, rfl, HE, hal, by omega, by omega, Lib.hid (fun x h => by injection h with h; omega), HO5.out, by omega, hA5, hD5⟩
          | some x =>
            go_wp2_with fail
            refine (seek_ok w4 g s (q + 1 + 1) pl HA4.out (by omega)).mono ?_
            rintro r w5 ⟨rfl, hA5, hC5⟩
            have HO5 := Lib.hid (hC5.own HO4.out HG1.out)
            have hD5 := hD4.trans' hC5 (fun j hj => .inr (by have e : j = g := hj; omega))
            have hsz5 := hC5.size
            go_wp2_with fail
            go_roundg f
            case measure => omega
            case rel => exact ⟨pl, pl, acc, some x, a0, c0, rfl, rfl, rfl, rfl, HE, hal, by omega, by omega, HNX, HO5.out, by omega, hA5, hD5⟩
      have k3 : ((bits .and .u8 (k : Int) 192) == 192) = false := by rw [hmask]; simp; omega
      by_cases c6 : 64 ≤ k
      · have k4 : ((bits .and .u8 (k : Int) 192) == 0) = false := by rw [hmask]; simp; omega
        have hrd : rd s.data.toList (f + 1) q ah acc nx = ([], 0, 3) := by rw [rd, if_neg (by rw [hlen]; exact c1), HBT.out, if_neg c2, if_neg c3, if_pos c6]
        have HE := Lib.hid (HQ.out.trans hrd)
        obtain ⟨m, hm⟩ : ∃ m, m = k / 64 * 64 := ⟨_, rfl⟩
        rw [← hm] at hmask
        rw [hmask] at k3 k4
        clear hrd hm
        go_wp2_with fail
        refine HB.out.mono ?_
        rintro r w3 ⟨rfl, hA3, hC3⟩
        have hD3 := hD.trans' hC3 (fun j hj => .inr (by have e : j = g := hj; omega))
        clear hC3 HB HO HG1 hA3 hA hD
        go_wp2_with fail
        (try simp only [Exit.inBlock, Exit.then])
        exact bodyPost_ret (v := .tuple #[.string ⟨#[]⟩, .int .i64 0, .int .i64 3]) (by simp [results, Tryd.results17, go_sem]) rfl ⟨by rw [HE.out]; rfl, hD3⟩
      have hm0 : k / 64 * 64 = 0 := by omega
      rw [hm0] at hmask
      clear k3
      by_cases c7 : s.size < q + 1 + k
      · have hrd : rd s.data.toList (f + 1) q ah acc nx = ([], 0, 4) := by rw [rd, if_neg (by rw [hlen]; exact c1), HBT.out, if_neg c2, if_neg c3, if_neg c6, if_pos (by rw [hlen]; exact c7)]
        have HE := Lib.hid (HQ.out.trans hrd)
        clear hrd hm0
        go_wp2_with fail
        refine HB.out.mono ?_
        rintro r w3 ⟨rfl, hA3, hC3⟩
        have hD3 := hD.trans' hC3 (fun j hj => .inr (by have e : j = g := hj; omega))
        have HA3 := Lib.hid hA3
        clear hC3 HB HO HG1 hA3 hA hD
        go_wp2_with fail
        refine (take_no w3 _ (k : Int) 4 (HG.out.nob hD3) (next_short w3 g s (q + 1) (k : Int) HA3.out (by omega) (by omega))).mono ?_
        rintro r w4 ⟨rfl, hC4⟩
        go_wp2_with fail
        (try simp only [Exit.inBlock, Exit.then])
        exact bodyPost_ret (v := .tuple #[.string ⟨#[]⟩, .int .i64 0, .int .i64 4]) (by simp [results, Tryd.results17, go_sem]) rfl ⟨by rw [HE.out]; rfl, hD3.trans hC4⟩
      have hsg : acc ++ [UInt8.ofNat k] ++ (s.extract (q + 1) (q + 1 + k)).data.toList = acc ++ seg s.data.toList q (1 + k) := by
        rw [ext_seg, ba_toList, seg_cons k (by rw [hlen]; omega), ← HBT.out]
        simp [bt]
      have hstep : rd s.data.toList (f + 1) q ah acc nx = if 254 < acc.length + (1 + k) then ([], 0, 5) else rd s.data.toList f (q + 1 + k) ah (acc ++ seg s.data.toList q (1 + k)) nx := by
        rw [rd, if_neg (by rw [hlen]; exact c1), HBT.out, if_neg c2, if_neg c3, if_neg c6, if_neg (by rw [hlen]; exact c7)]
      have HST := Lib.hid (HQ.out.trans hstep)
      have HT := Lib.hid (fun W (h : At W g s (q + 1)) => take_ok W g s (q + 1) k h (by omega))
      obtain ⟨T, hT⟩ : ∃ T : ByteArray, T = s.extract (q + 1) (q + 1 + k) := ⟨_, rfl⟩
      have hTs : T.size = k := by rw [hT, ByteArray.size_extract]; omega
      rw [← hT] at HT hsg
      obtain ⟨N, hN⟩ : ∃ N, N = acc ++ seg s.data.toList q (1 + k) := ⟨_, rfl⟩
      have hNl : N.length = acc.length + (1 + k) := by rw [hN, List.length_append, seg_len (by rw [hlen]; omega)]
      rw [← hN] at HST hsg
      have HSG := Lib.hid hsg
      have HNL := Lib.hid hNl
      have HTS := Lib.hid hTs
      have n0 : (0 : Int) ≤ (N.length : Int) := by omega
      have n1 : (N.length : Int) ≤ 1000 := by omega
      clear hstep hT hN hsg hm0 hNl hTs
      by_cases c8 : 254 < acc.length + (1 + k)
      · have hst := HST.out
        rw [if_pos c8] at hst
        have HE := Lib.hid hst
        have c8i : (255 : Int) < (N.length : Int) + 1 := by have := HNL.out; omega
        clear hst HST
        go_wp2_with fail
        refine HB.out.mono ?_
        rintro r w3 ⟨rfl, hA3, hC3⟩
        have HO3 := Lib.hid (hC3.own HO.out HG1.out)
        have hD3 := hD.trans' hC3 (fun j hj => .inr (by have e : j = g := hj; omega))
        have HA3 := Lib.hid hA3
        have hsz3 := hC3.size
        clear hC3 HB HO hA3 hA hD
        go_wp2_with fail
        refine (HT.out w3 HA3.out).mono ?_
        rintro r w4 ⟨rfl, hA4, hC4⟩
        have HO4 := Lib.hid (hC4.own HO3.out HG1.out)
        have hD4 := hD3.trans' hC4 (fun j hj => .inr (by have e : j = g := hj; omega))
        have HA4 := Lib.hid hA4
        have hsz4 := hC4.size
        have HB1 := Lib.hid (byte_lit w4 k hk8)
        have HO5 := Lib.hid (HO4.out.alloc (.cells #[.int .u8 (k : Int)] 5))
        have hD5 := hD4.alloc (.cells #[.int .u8 (k : Int)] 5)
        have hA5 := HA4.out.nob ((Chg.refl Nob w4).alloc (.cells #[.int .u8 (k : Int)] 5))
        have HA5 := Lib.hid hA5
        obtain ⟨L, hL⟩ : ∃ L, L = acc ++ [UInt8.ofNat k] := ⟨_, rfl⟩
        have hLl : L.length = acc.length + 1 := by rw [hL]; simp
        have HL := Lib.hid hL
        have HLL := Lib.hid hLl
        rw [← hL] at HSG
        clear hC4 HO3 hA4 HA3 hD3 HT HO4 hL hLl hA5 hD4 HA4
        go_wp2_with (first | (at_builtin; refine app_bytes2 _ rfl _ _ rfl w1.heap.size _ acc rfl HO5.out _ [UInt8.ofNat k] rfl HB1.out (by simp only [List.length_singleton]; omega) (by rw [World.size_alloc]; omega) ?_; intro a5 c5 w5; rw [← HL.out]; intro hown5 hC5; have HO6 := Lib.hid hown5; clear hown5) | (at_builtin; refine app_text _ rfl _ _ rfl w1.heap.size _ L rfl HO6.out T rfl (by have := HTS.out; have := HLL.out; omega) (by have h7 := hC5.size; rw [World.size_alloc] at h7; omega) ?_; intro a6 c6 w6; rw [HSG.out]; intro hown6 hC6; have HO7 := Lib.hid hown6; clear hown6))
        (try simp only [Exit.inBlock, Exit.then])
        exact bodyPost_ret (v := .tuple #[.string ⟨#[]⟩, .int .i64 0, .int .i64 5]) (by simp [results, Tryd.results17, go_sem]) rfl ⟨by rw [HE.out]; rfl, (hD5.trans' hC5 (fun j hj => .inr (Nat.le_trans hlt hj))).trans' hC6 (fun j hj => .inr (Nat.le_trans hlt hj))⟩
      · have hst := HST.out
        rw [if_neg c8] at hst
        have HE := Lib.hid hst
        have c8i : ¬ (255 : Int) < (N.length : Int) + 1 := by have := HNL.out; omega
        clear hst HST
        go_wp2_with fail
        refine HB.out.mono ?_
        rintro r w3 ⟨rfl, hA3, hC3⟩
        have HO3 := Lib.hid (hC3.own HO.out HG1.out)
        have hD3 := hD.trans' hC3 (fun j hj => .inr (by have e : j = g := hj; omega))
        have HA3 := Lib.hid hA3
        have hsz3 := hC3.size
        clear hC3 HB HO hA3 hA hD
        go_wp2_with fail
        refine (HT.out w3 HA3.out).mono ?_
        rintro r w4 ⟨rfl, hA4, hC4⟩
        have HO4 := Lib.hid (hC4.own HO3.out HG1.out)
        have hD4 := hD3.trans' hC4 (fun j hj => .inr (by have e : j = g := hj; omega))
        have HA4 := Lib.hid hA4
        have hsz4 := hC4.size
        have HB1 := Lib.hid (byte_lit w4 k hk8)
        have HO5 := Lib.hid (HO4.out.alloc (.cells #[.int .u8 (k : Int)] 5))
        have hD5 := hD4.alloc (.cells #[.int .u8 (k : Int)] 5)
        have hA5 := HA4.out.nob ((Chg.refl Nob w4).alloc (.cells #[.int .u8 (k : Int)] 5))
        have HA5 := Lib.hid hA5
        obtain ⟨L, hL⟩ : ∃ L, L = acc ++ [UInt8.ofNat k] := ⟨_, rfl⟩
        have hLl : L.length = acc.length + 1 := by rw [hL]; simp
        have HL := Lib.hid hL
        have HLL := Lib.hid hLl
        rw [← hL] at HSG
        clear hC4 HO3 hA4 HA3 hD3 HT HO4 hL hLl hA5 hD4 HA4
        go_wp2_with (first | (at_builtin; refine app_bytes2 _ rfl _ _ rfl w1.heap.size _ acc rfl HO5.out _ [UInt8.ofNat k] rfl HB1.out (by simp only [List.length_singleton]; omega) (by rw [World.size_alloc]; omega) ?_; intro a5 c5 w5; rw [← HL.out]; intro hown5 hC5; have HO6 := Lib.hid hown5; clear hown5) | (at_builtin; refine app_text _ rfl _ _ rfl w1.heap.size _ L rfl HO6.out T rfl (by have := HTS.out; have := HLL.out; omega) (by have h7 := hC5.size; rw [World.size_alloc] at h7; omega) ?_; intro a6 c6 w6; rw [HSG.out]; intro hown6 hC6; have HO7 := Lib.hid hown6; clear hown6))
        have hA6 := (HA5.out.chg hC5 (by omega)).chg hC6 (by omega)
        have hz5 := hC5.size
        have hz6 := hC6.size
        rw [World.size_alloc] at hz5
        go_roundg f
        case measure => omega
        case rel => exact ⟨q + 1 + k, ah, N, nx, a6, c6, rfl, rfl, rfl, rfl, HE, by have := HNL.out; omega, hah, by have := HNL.out; omega, HNX, HO7.out, by omega, hA6, (hD5.trans' hC5 (fun j hj => .inr (Nat.le_trans hlt hj))).trans' hC6 (fun j hj => .inr (Nat.le_trans hlt hj))⟩
end Go.Proofs.YtngmdefhdknggaaDoor.Cm
