/- hustingslaw04.is, awake, many, walked. -/
import Derived.Test.YtngmdefhdknggaaDoorCmPut
namespace Go.Proofs.YtngmdefhdknggaaDoor.Cm
open Go.RowKit Go.Maps Go.Proofs.YtngmdefhdknggaaDoor.Cur Go.Proofs.YtngmdefhdknggaaDoor.Put Go.Proofs.YtngmdefhdknggaaDoor.Nm

theorem ba_cat (l m : List UInt8) : ba l ++ ba m = ba (l ++ m) := by
  apply ByteArray.ext
  rw [ByteArray.data_append]
  simp [ba]
theorem ba_size (l : List UInt8) : (ba l).size = l.length := by
  show l.toArray.size = _
  rw [List.size_toArray]

set_option maxRecDepth 100000 in
set_option maxHeartbeats 4000000 in
theorem is_any (w : World) (b N : Nat) (t : Tbl) (v : Value) (L : List UInt8) (s x : ByteArray) (R : List UInt8 × Tbl) (h : mayB s.data.toList = true) (hv : BytesAt w v L) (hT : TblAt w b N t) (hL : L.length ≤ 1000000) (hN : N ≤ 1000000) (htl : TLow t)
    (hR : putTop true true s.data.toList L t = R) (hx : R.1 = L ++ x.data.toList) (hxs : x.size ≤ 1000) :
    Calls Tryd.prog 38 #[.pointer (some ⟨b, 0, none⟩), v, .string s, .string x] w fun e w' => ∃ a c, e = .returned (.tuple #[.slice a R.1.length c, .bool true]) ∧
      BytesAt w' (.slice a R.1.length c) R.1 ∧ TblAt w' b (N + 256) R.2 ∧ TLow R.2 ∧ Chg (TblS w b) w w' ∧ TG w w' b := by
  have hP := put_good w b N t v L s true true h hv hT (by omega) (by omega) htl
  rw [hR] at hP
  have HP := Lib.hid hP
  have HV := Lib.hid hv
  have HT := Lib.hid hT
  obtain ⟨ad, cd, rfl, hlc, _⟩ := hv
  have hcat : ba L ++ x = ba R.1 := by rw [hx, ← ba_cat, ba_of]
  have hno : ¬ 9223372036854775807 < (ba L).size + x.size := by rw [ba_size]; omega
  obtain ⟨R1, R2⟩ := R
  simp only at *
  clear hP hT hx hR h
  obtain ⟨l0, hl0⟩ : ∃ l0, l0 = L.length := ⟨_, rfl⟩
  rw [← hl0] at HV HP hlc ⊢
  obtain ⟨S1, hS1⟩ : ∃ S, S = ba L := ⟨_, rfl⟩
  obtain ⟨S2, hS2⟩ : ∃ S, S = ba R1 := ⟨_, rfl⟩
  rw [← hS1, ← hS2] at hcat
  rw [← hS1] at hno
  have HS1 := Lib.hid hS1
  have HS2 := Lib.hid hS2
  clear hl0 hS1 hS2 hL
  go_enter Tryd.func38, Tryd.ntmps38
  go_wp2_with fail
  refine HP.out.mono ?_
  rintro r w1 ⟨a1, c1, rfl, hown1, hT1, hl1, hC1, hG1⟩
  have hB1 := BytesAt.of_own hown1
  have hB0 := bytes_tbl HV.out HT.out hC1
  have hcv1 := fun n => conv_bytes (hB1.nob ((Chg.refl Nob w1).drewN n))
  have hcv0 := fun n => conv_bytes (hB0.nob ((Chg.refl Nob w1).drewN n))
  rw [show (⟨R1.toArray⟩ : ByteArray) = S2 from HS2.out.symm] at hcv1
  rw [show (⟨L.toArray⟩ : ByteArray) = S1 from HS1.out.symm] at hcv0
  have HB1 := Lib.hid hB1
  have HT1 := Lib.hid hT1
  have HL1 := Lib.hid hl1
  have HG1 := Lib.hid hG1
  clear hown1 hT1 hl1 hG1 hB1 hB0 HP
  go_wp2_with fail
  go_quiet (fail)
  go_wp2_with fail
  (try simp only [Exit.inBlock, Exit.then])
  exact bodyPost_ret (v := .tuple #[.slice a1 R1.length c1, .bool true]) (by simp [results, Tryd.results38, go_sem]) rfl ⟨a1, c1, rfl, HB1.out.nob ((Chg.refl Nob w1).drewN nq), HT1.out.nob ((Chg.refl Nob w1).drewN nq), HL1.out, hC1.drewN nq, HG1.out⟩

/-- A table of the law's own. -/
def TNew (w0 w : World) (b : Nat) : Prop := ∀ k, TblS w b k → w0.heap.size ≤ k
theorem TNew.put {w0 w w' : World} {b : Nat} (h : TNew w0 w b) (hs : w0.heap.size ≤ w.heap.size) (hg : TG w w' b) : TNew w0 w' b := fun k hk => by
  rcases hg k hk with h2 | h2
  · exact h k h2
  · exact Nat.le_trans hs h2
theorem TNew.nob {w0 w w' : World} {b : Nat} (h : TNew w0 w b) (hl : b < w.heap.size) (hc : Chg Nob w w') : TNew w0 w' b := fun k hk => h k (TblS.same hl hc (fun h => h) hk)
theorem TNew.far {w0 w w' : World} {b : Nat} {S : Nat → Prop} (h : TNew w0 w b) (hl : b < w.heap.size) (hc : Chg S w w') (hb : ¬ S b) : TNew w0 w' b := fun k hk => h k (TblS.same hl hc hb hk)
theorem TNew.made {w w' : World} (h : w'.heap[w.heap.size]? = some (.cells #[.map none] 32 (0, 0))) : TNew w w' w.heap.size := fun k hk => by
  rcases hk with hk | hk
  · exact Nat.le_of_eq hk.symm
  · rw [h] at hk
    injection hk with hk
    injection hk with hk
    simp at hk
theorem TLow.nil : TLow fun _ => none := fun m a h => by cases h

/-- The examples' table, step by step. -/
def A1 : List UInt8 × Tbl := putTop true true [3, 119, 119, 119, 2, 101, 120, 0] [] fun _ => none
def A2 : List UInt8 × Tbl := putTop true true [3, 102, 116, 112, 2, 101, 120, 0] A1.1 A1.2
def A3 : List UInt8 × Tbl := putTop true true [2, 101, 120, 0] A2.1 A2.2
def A4 : List UInt8 × Tbl := putTop true true [3, 87, 87, 87, 2, 101, 120, 0] A3.1 A3.2
theorem a1 : A1.1 = [] ++ [3, 119, 119, 119, 2, 101, 120, 0] := by kernel_rfl
theorem a2 : A2.1 = A1.1 ++ [3, 102, 116, 112, 192, 4] := by kernel_rfl
theorem a3 : A3.1 = A2.1 ++ [192, 4] := by kernel_rfl
theorem a4 : A4.1 = A3.1 ++ [3, 87, 87, 87, 192, 4] := by kernel_rfl
theorem b1 : A1.1 = [] ++ (⟨#[3, 119, 119, 119, 2, 101, 120, 0]⟩ : ByteArray).data.toList := by kernel_rfl
theorem c1 : putTop true true (⟨#[3, 119, 119, 119, 2, 101, 120, 0]⟩ : ByteArray).data.toList [] (fun _ => none) = A1 := by kernel_rfl
theorem m1 : mayB (⟨#[3, 119, 119, 119, 2, 101, 120, 0]⟩ : ByteArray).data.toList = true := by kernel_rfl
theorem b2 : A2.1 = A1.1 ++ (⟨#[3, 102, 116, 112, 192, 4]⟩ : ByteArray).data.toList := by kernel_rfl
theorem c2 : putTop true true (⟨#[3, 102, 116, 112, 2, 101, 120, 0]⟩ : ByteArray).data.toList A1.1 A1.2 = A2 := by kernel_rfl
theorem m2 : mayB (⟨#[3, 102, 116, 112, 2, 101, 120, 0]⟩ : ByteArray).data.toList = true := by kernel_rfl
theorem b3 : A3.1 = A2.1 ++ (⟨#[192, 4]⟩ : ByteArray).data.toList := by kernel_rfl
theorem c3 : putTop true true (⟨#[2, 101, 120, 0]⟩ : ByteArray).data.toList A2.1 A2.2 = A3 := by kernel_rfl
theorem m3 : mayB (⟨#[2, 101, 120, 0]⟩ : ByteArray).data.toList = true := by kernel_rfl
theorem b4 : A4.1 = A3.1 ++ (⟨#[3, 87, 87, 87, 192, 4]⟩ : ByteArray).data.toList := by kernel_rfl
theorem c4 : putTop true true (⟨#[3, 87, 87, 87, 2, 101, 120, 0]⟩ : ByteArray).data.toList A3.1 A3.2 = A4 := by kernel_rfl
theorem m4 : mayB (⟨#[3, 87, 87, 87, 2, 101, 120, 0]⟩ : ByteArray).data.toList = true := by kernel_rfl
theorem a5 : rdTop A4.1 8 = ([3, 102, 116, 112, 2, 101, 120, 0], 14, 0) := by kernel_rfl

theorem read_r (w : World) (s : ByteArray) (i : Int) (x : ByteArray) (n e : Nat) (hs : s.size ≤ 140737488351232) (hg : As.Laid w) (h : rdTop s.data.toList i = (x.data.toList, n, e)) :
    Calls Tryd.prog 17 #[.string s, .int .i64 i] w fun r w' => r = .returned (.tuple #[.string x, .int .i64 (n : Int), .int .i64 (e : Int)]) ∧ Chg Nob w w' := by
  have h2 := read_any w s i hs hg
  rw [h] at h2
  simp only [ba_of] at h2
  exact h2

set_option maxRecDepth 100000 in
set_option maxHeartbeats 4000000 in
theorem awake_any (w : World) (hg : As.Laid w) : Calls Tryd.prog 15 #[] w fun e w' => e = .returned (.bool true) ∧ Chg Nob w w' := by
  have HG := Lib.hid hg
  clear hg
  have l1 : A1.1.length ≤ 1000 := by rw [a1]; decide
  have l2 : A2.1.length ≤ 1000 := by rw [a2, List.length_append, a1]; decide
  have l3 : A3.1.length ≤ 1000 := by rw [a3, List.length_append, a2, List.length_append, a1]; decide
  go_enter Tryd.func15, Tryd.ntmps15
  go_wp2_with fail
  refine (new_any w).mono ?_
  rintro r w1 ⟨rfl, hT1, hb1, hC1⟩
  have hN1 := TNew.made hb1
  have hs1 := hC1.size
  obtain ⟨b, hb⟩ : ∃ b, b = w.heap.size := ⟨_, rfl⟩
  rw [← hb] at hT1 hN1 ⊢
  have HBB := Lib.hid hb
  clear hb1 hb
  go_wp2_with fail
  have HP2 := Lib.hid (is_any w1 b 0 _ (.slice none 0 0) [] ⟨#[3, 119, 119, 119, 2, 101, 120, 0]⟩ ⟨#[3, 119, 119, 119, 2, 101, 120, 0]⟩ A1 m1 (BytesAt.nil w1) hT1 (by simp) (by omega) TLow.nil c1 b1 (by decide))
  refine HP2.out.mono ?_
  rintro r w2 ⟨x2, y2, rfl, hB2, hT2, hL2, hC2, hG2⟩
  have hD2 := hC1.trans' hC2 (fun j hj => .inr (hN1 j hj))
  have hN2 := hN1.put hs1 hG2
  have hs2 := hD2.size
  have HP3 := Lib.hid (is_any w2 b (0 + 256) _ _ A1.1 ⟨#[3, 102, 116, 112, 2, 101, 120, 0]⟩ ⟨#[3, 102, 116, 112, 192, 4]⟩ A2 m2 hB2 hT2 (by omega) (by omega) hL2 c2 b2 (by decide))
  obtain ⟨e2, he2⟩ : ∃ e, e = A1.1.length := ⟨_, rfl⟩
  rw [← he2] at HP3 hB2 ⊢
  clear he2 hB2 hT2 hL2 hC2 hG2
  go_wp2_with fail
  refine HP3.out.mono ?_
  rintro r w3 ⟨x3, y3, rfl, hB3, hT3, hL3, hC3, hG3⟩
  have hD3 := hD2.trans' hC3 (fun j hj => .inr (hN2 j hj))
  have hN3 := hN2.put hs2 hG3
  have hs3 := hD3.size
  have HP4 := Lib.hid (is_any w3 b (0 + 256 + 256) _ _ A2.1 ⟨#[2, 101, 120, 0]⟩ ⟨#[192, 4]⟩ A3 m3 hB3 hT3 (by omega) (by omega) hL3 c3 b3 (by decide))
  obtain ⟨e3, he3⟩ : ∃ e, e = A2.1.length := ⟨_, rfl⟩
  rw [← he3] at HP4 hB3 ⊢
  clear he3 hB3 hT3 hL3 hC3 hG3
  go_wp2_with fail
  refine HP4.out.mono ?_
  rintro r w4 ⟨x4, y4, rfl, hB4, hT4, hL4, hC4, hG4⟩
  have hD4 := hD3.trans' hC4 (fun j hj => .inr (hN3 j hj))
  have hN4 := hN3.put hs3 hG4
  have hs4 := hD4.size
  have HP5 := Lib.hid (is_any w4 b (0 + 256 + 256 + 256) _ _ A3.1 ⟨#[3, 87, 87, 87, 2, 101, 120, 0]⟩ ⟨#[3, 87, 87, 87, 192, 4]⟩ A4 m4 hB4 hT4 (by omega) (by omega) hL4 c4 b4 (by decide))
  obtain ⟨e4, he4⟩ : ∃ e, e = A3.1.length := ⟨_, rfl⟩
  rw [← he4] at HP5 hB4 ⊢
  clear he4 hB4 hT4 hL4 hC4 hG4
  go_wp2_with fail
  refine HP5.out.mono ?_
  rintro r w5 ⟨x5, y5, rfl, hB5, hT5, hL5, hC5, hG5⟩
  have hD5 := hD4.trans' hC5 (fun j hj => .inr (hN4 j hj))
  have hN5 := hN4.put hs4 hG5
  have hs5 := hD5.size
  have hcv := conv_bytes hB5
  obtain ⟨S, hS⟩ : ∃ S : ByteArray, S = ba A4.1 := ⟨_, rfl⟩
  rw [show (⟨A4.1.toArray⟩ : ByteArray) = S from hS.symm] at hcv
  have hSs : S.size ≤ 1000 := by rw [hS, ba_size, a4, List.length_append, a3, List.length_append, a2, List.length_append, a1]; decide
  have hr1 := a5
  have hSd : S.data.toList = A4.1 := by rw [hS, ba_toList]
  rw [← hSd] at hr1
  have HR1 := Lib.hid (fun W hg => read_r W S 8 ⟨#[3, 102, 116, 112, 2, 101, 120, 0]⟩ 14 0 (by omega) hg hr1)
  have HR2 := Lib.hid (fun W hg => read_r W ⟨#[192, 0]⟩ 0 ⟨#[]⟩ 0 8 (by decide) hg (by kernel_rfl))
  have HR3 := Lib.hid (fun W hg => read_r W ⟨#[64]⟩ 0 ⟨#[]⟩ 0 3 (by decide) hg (by kernel_rfl))
  have HR4 := Lib.hid (fun W hg => read_r W ⟨#[3, 97]⟩ 0 ⟨#[]⟩ 0 4 (by decide) hg (by kernel_rfl))
  have HR5 := Lib.hid (fun W hg => read_r W ⟨#[]⟩ 0 ⟨#[]⟩ 0 4 (by decide) hg (by kernel_rfl))
  have HR6 := Lib.hid (fun W hg => read_r W ⟨#[]⟩ 1 ⟨#[]⟩ 0 1 (by decide) hg (by kernel_rfl))
  obtain ⟨e5, he5⟩ : ∃ e, e = A4.1.length := ⟨_, rfl⟩
  rw [← he5] at hcv ⊢
  clear he5 hB5 hT5 hL5 hC5 hG5 hS hSs hr1 hSd
  go_wp2_with fail
  refine (HR1.out w5 (HG.out.nob hD5)).mono ?_
  rintro r w6 ⟨rfl, hC6⟩
  have hD6 := hD5.trans hC6
  go_wp2_with fail
  refine (HR2.out w6 (HG.out.nob hD6)).mono ?_
  rintro r w7 ⟨rfl, hC7⟩
  have hD7 := hD6.trans hC7
  go_wp2_with fail
  refine (HR3.out w7 (HG.out.nob hD7)).mono ?_
  rintro r w8 ⟨rfl, hC8⟩
  have hD8 := hD7.trans hC8
  go_wp2_with fail
  refine (HR4.out w8 (HG.out.nob hD8)).mono ?_
  rintro r w9 ⟨rfl, hC9⟩
  have hD9 := hD8.trans hC9
  go_wp2_with fail
  refine (HR5.out w9 (HG.out.nob hD9)).mono ?_
  rintro r w10 ⟨rfl, hC10⟩
  have hD10 := hD9.trans hC10
  go_wp2_with fail
  refine (HR6.out w10 (HG.out.nob hD10)).mono ?_
  rintro r w11 ⟨rfl, hC11⟩
  have hD11 := hD10.trans hC11
  go_wp2_with fail
  go_ret
  exact ⟨rfl, hD11⟩
end Go.Proofs.YtngmdefhdknggaaDoor.Cm
