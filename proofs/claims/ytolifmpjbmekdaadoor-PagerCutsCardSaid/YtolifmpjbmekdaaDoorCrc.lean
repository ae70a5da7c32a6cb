/-
The contract of crc.More, for every check and every text that the machine can hold: it answers crcMore, which folds crcStep over the bytes;
conditions: the text has at most 2^63 - 1 bytes. (crc.table answers tabA.)
-/
import Derived.Test.YtolifmpjbmekdaaDoorProg
import Derived.WalkKit
import Derived.Lib.Hide
import Derived.KernelRfl
import Derived.Below
import Derived.Laws.Rows
import Derived.Great.BuildSlice
import Derived.Great.Walk
import Derived.Deep.OwnRows
import Derived.RegionCalls
import Derived.Laws.BitsLemmas
namespace Go.Proofs.YtolifmpjbmekdaaDoor
open Go.RowKit
open Go.Lib (hid)
def tab : List Int := [0, 1996959894, 3993919788, 2567524794, 124634137, 1886057615, 3915621685, 2657392035, 249268274, 2044508324, 3772115230, 2547177864, 162941995, 2125561021, 3887607047, 2428444049, 498536548, 1789927666, 4089016648, 2227061214, 450548861, 1843258603, 4107580753, 2211677639, 325883990, 1684777152, 4251122042, 2321926636, 335633487, 1661365465, 4195302755, 2366115317, 997073096, 1281953886, 3579855332, 2724688242, 1006888145, 1258607687, 3524101629, 2768942443, 901097722, 1119000684, 3686517206, 2898065728, 853044451, 1172266101, 3705015759, 2882616665, 651767980, 1373503546, 3369554304, 3218104598, 565507253, 1454621731, 3485111705, 3099436303, 671266974, 1594198024, 3322730930, 2970347812, 795835527, 1483230225, 3244367275, 3060149565, 1994146192, 31158534, 2563907772, 4023717930, 1907459465, 112637215, 2680153253, 3904427059, 2013776290, 251722036, 2517215374, 3775830040, 2137656763, 141376813, 2439277719, 3865271297, 1802195444, 476864866, 2238001368, 4066508878, 1812370925, 453092731, 2181625025, 4111451223, 1706088902, 314042704, 2344532202, 4240017532, 1658658271, 366619977, 2362670323, 4224994405, 1303535960, 984961486, 2747007092, 3569037538, 1256170817, 1037604311, 2765210733, 3554079995, 1131014506, 879679996, 2909243462, 3663771856, 1141124467, 855842277, 2852801631, 3708648649, 1342533948, 654459306, 3188396048, 3373015174, 1466479909, 544179635, 3110523913, 3462522015, 1591671054, 702138776, 2966460450, 3352799412, 1504918807, 783551873, 3082640443, 3233442989, 3988292384, 2596254646, 62317068, 1957810842, 3939845945, 2647816111, 81470997, 1943803523, 3814918930, 2489596804, 225274430, 2053790376, 3826175755, 2466906013, 167816743, 2097651377, 4027552580, 2265490386, 503444072, 1762050814, 4150417245, 2154129355, 426522225, 1852507879, 4275313526, 2312317920, 282753626, 1742555852, 4189708143, 2394877945, 397917763, 1622183637, 3604390888, 2714866558, 953729732, 1340076626, 3518719985, 2797360999, 1068828381, 1219638859, 3624741850, 2936675148, 906185462, 1090812512, 3747672003, 2825379669, 829329135, 1181335161, 3412177804, 3160834842, 628085408, 1382605366, 3423369109, 3138078467, 570562233, 1426400815, 3317316542, 2998733608, 733239954, 1555261956, 3268935591, 3050360625, 752459403, 1541320221, 2607071920, 3965973030, 1969922972, 40735498, 2617837225, 3943577151, 1913087877, 83908371, 2512341634, 3803740692, 2075208622, 213261112, 2463272603, 3855990285, 2094854071, 198958881, 2262029012, 4057260610, 1759359992, 534414190, 2176718541, 4139329115, 1873836001, 414664567, 2282248934, 4279200368, 1711684554, 285281116, 2405801727, 4167216745, 1634467795, 376229701, 2685067896, 3608007406, 1308918612, 956543938, 2808555105, 3495958263, 1231636301, 1047427035, 2932959818, 3654703836, 1088359270, 936918000, 2847714899, 3736837829, 1202900863, 817233897, 3183342108, 3401237130, 1404277552, 615818150, 3134207493, 3453421203, 1423857449, 601450431, 3009837614, 3294710456, 1567103746, 711928724, 3020668471, 3272380065, 1510334235, 755167117]
def zs : Array Value := Array.replicate 256 (.int .u32 0)
theorem zero56 (w : World) : (zeroValue 136).run Tryd.prog w = .ok (.agg zs) w := by kernel_rfl
theorem zs_size : zs.size = 256 := by kernel_rfl
def tabA : Array Value := (tab.map (Value.int .u32)).toArray
theorem alloc_last (w : World) (o : Obj) : (w.alloc o).heap[w.heap.size]? = some o := by
  show (w.heap.push o)[w.heap.size]? = _
  rw [Array.getElem?_push, if_pos rfl]
theorem below_setRow (w : World) (o : Obj) (cs : Array Value) : Below w.heap.size w ((w.alloc o).setRow w.heap.size cs) :=
  ((Below.refl _ w).alloc (Nat.le_refl _) o).trans ⟨rfl, rfl, rfl, by simp, fun k hk => setRow_other _ _ _ _ (by omega)⟩
set_option maxHeartbeats 4000000 in
set_option maxRecDepth 100000 in
theorem table_calls (w : World) : Calls Tryd.prog 87 #[] w fun e w' => e = .returned (.agg tabA) ∧ Below w.heap.size w w' := by
  go_enter Tryd.func87, Tryd.ntmps87
  have hz := zero56
  have hs := zs_size
  apply wp_seq_k; intro K0 hK0
  apply wp_region_lit
  refine Great.wpList_runTo rfl (some 0) rfl (.pointer (some ⟨w.heap.size, 0, none⟩)) (w.alloc (.cells zs 136)) (by as_aux_lemma => kernel_rfl) ?_
  apply wpList_nil
  refine hK0 _ _ ?_
  clear hK0 K0
  apply wp_seq_k; intro K0 hK0
  apply wp_region_lit
  refine wpList_buildFlatArrTo rfl 136 106 256 _ rfl .u32 tab (some 1) rfl (by kernel_rfl) (by kernel_rfl) (by kernel_rfl) (by kernel_rfl) ?_
  refine wpList_store_rowTo rfl 136 _ _ rfl rfl w.heap.size tabA (by kernel_rfl) (by kernel_rfl) 136 zs (alloc_last w _) (by kernel_rfl) (by kernel_rfl) (by kernel_rfl) ?_
  apply wpList_nil
  refine hK0 _ _ ?_
  clear hK0 K0
  apply wp_ret
  refine bodyPost_ret (v := .agg tabA) ?_ ?_ ?_
  rotate_left
  · rfl
  rotate_left
  · exact results_cell_row (p := 0) (ty := 136) (by kernel_rfl) _ _ w.heap.size 136 tabA (0, 0) (.array 256 106) (by kernel_rfl) (setRow_heap _ _ zs tabA 136 (0, 0) (alloc_last w _)) Tryd.underlying136 rfl (by kernel_rfl)
  · exact ⟨rfl, below_setRow w _ _⟩


def tabAt (i : Int) : Int := tab.getD i.toNat 0
def crcStep (c : Int) (b : UInt8) : Int := Go.bits .xor .u32 (tabAt (Go.bits .xor .u8 (IntKind.u8.wrap c) b.toNat)) (c / 256)
def crcFold (c : Int) (l : List UInt8) : Int := l.foldl crcStep c
theorem u32_range (op : BinOp) (a b : Int) : 0 ≤ Go.bits op .u32 a b ∧ Go.bits op .u32 a b < 4294967296 := by
  unfold Go.bits
  rw [IntKind.wrap_u32]
  omega
theorem u8_range (op : BinOp) (a b : Int) : 0 ≤ Go.bits op .u8 a b ∧ Go.bits op .u8 a b < 256 := by
  unfold Go.bits
  rw [IntKind.wrap_u8]
  omega
theorem crcStep_range (c : Int) (b : UInt8) : 0 ≤ crcStep c b ∧ crcStep c b < 4294967296 := u32_range _ _ _
theorem crcFold_snoc (c : Int) (s : ByteArray) (k : Nat) (h : k < s.size) : crcFold c (s.data.toList.take (k + 1)) = crcStep (crcFold c (s.data.toList.take k)) s[k] := by
  rw [List.take_succ_eq_append_getElem (by simpa using h)]
  unfold crcFold
  rw [List.foldl_append]
  rfl
theorem tab_length : tab.length = 256 := by kernel_rfl
theorem tabA_get (n : Nat) (h : n < 256) : tabA[n]? = some (.int .u32 (tabAt n)) := by
  have hl : n < tab.length := by rw [tab_length]; exact h
  unfold tabA tabAt
  rw [List.getElem?_toArray, List.getElem?_map, List.getElem?_eq_getElem hl, Int.toNat_natCast, List.getD_eq_getElem?_getD, List.getElem?_eq_getElem hl]
  rfl
theorem index_tab (w : World) (i : Int) (h0 : 0 ≤ i) (h1 : i < 256) : (Instr.index 136 (.agg tabA) (.int .u8 i)).run Tryd.prog w = .ok (.int .u32 (tabAt i)) w := by
  obtain ⟨n, rfl⟩ := Int.eq_ofNat_of_zero_le h0
  have hn : n < 256 := by omega
  have hg := tabA_get n hn
  have hu : (isAgg 106).run Tryd.prog w = .ok false w := by kernel_rfl
  have hsz : (sizeOf 106).run Tryd.prog w = .ok 1 w := by kernel_rfl
  simp only [Instr.index, asIntOf, Sem.run_bind, Sem.run_pure, Result.andThen_ok, run_underlying Tryd.underlying136 w, part]
  rw [if_pos ⟨by omega, by omega⟩]
  simp only [Sem.run_bind, Result.andThen_ok, hu, hsz, Nat.mul_one, Int.toNat_natCast]
  rw [hg]
  rfl
set_option maxHeartbeats 4000000 in
set_option maxRecDepth 100000 in
theorem more_calls (c : Int) (s : ByteArray) (w : World) (hs : s.size ≤ maxLen) : Calls Tryd.prog 76 #[.int .u32 c, .string s] w fun e w' => e = .returned (.int .u32 (Go.bits .xor .u32 (crcFold (Go.bits .xor .u32 c 4294967295) s.data.toList) 4294967295)) ∧ Below w.heap.size w w' := by
  unfold maxLen at hs
  have hr := u32_range .xor c 4294967295
  go_enter Tryd.func76, Tryd.ntmps76
  go_wp2
  go_loopw [0, 10] (fun v0 v10 w' => ∃ (x : Int) (k : Nat), v0 = .int .u32 x ∧ v10 = .int .i64 k ∧ k ≤ s.size ∧ 0 ≤ x ∧ x < 4294967296 ∧ Hid (x = crcFold (Go.bits .xor .u32 c 4294967295) (s.data.toList.take k)) ∧ Below w.heap.size w w') (fun _ v10 _ => s.size - (intOf v10).toNat)
  case atStart => exact ⟨_, 0, rfl, rfl, Nat.zero_le _, hr.1, hr.2, hid rfl, Below.refl _ _⟩
  case round =>
    obtain ⟨x, k, rfl, rfl, hk, hx0, hx1, HX, HB⟩ := hrel
    clear hr
    by_cases hlt : k < s.size
    · have hb := u8_range .xor (IntKind.u8.wrap x) s[k].toNat
      have hix := fun w => index_tab w (Go.bits .xor .u8 (IntKind.u8.wrap x) s[k].toNat) hb.1 hb.2
      have HS : Hid (crcFold (Go.bits .xor .u32 c 4294967295) (s.data.toList.take (k + 1)) = crcStep x s[k]) := by rw [HX.out]; exact crcFold_snoc _ _ _ hlt
      have hst := crcStep_range x s[k]
      clear hb
      go_wp2
      go_region_with (first | (go_at_call 87; refine (table_calls _).mono ?_; rintro e w1 ⟨rfl, hb⟩))
      go_wp2
      all_goals
        have e : bits .xor .u32 (tabAt (bits .xor .u8 (x % 256) s[k].toNat)) (x / 256) = crcStep x s[k] := by
          unfold crcStep
          rw [IntKind.wrap_u8]
        rw [e]
        refine ⟨⟨_, k + 1, rfl, by go_num, by omega, hst.1, hst.2, hid HS.out.symm, HB.drew.trans (hb.mono ?_)⟩, ?_⟩
        · have := HB.size
          simpa using this
        · simp [intOf]
          omega
    · go_wp2
      go_ret
      have e : List.take k s.data.toList = s.data.toList := List.take_of_length_le (by simp; omega)
      have HX2 := HX.out
      rw [e] at HX2
      rw [HX2]
      exact ⟨rfl, HB⟩

/-- What is below a world's end reads in a later one as it did. -/
theorem bcell {W w1 : World} (hb : Below W.heap.size W w1) : (∀ b o, b < W.heap.size → w1.cell? ⟨b, o, none⟩ = W.cell? ⟨b, o, none⟩) ∧ (∀ b o, b < W.heap.size → w1.frozen? ⟨b, o, none⟩ = W.frozen? ⟨b, o, none⟩) :=
  ⟨fun b o h => hb.cell (p := ⟨b, o, none⟩) h, fun b o h => hb.frozen (p := ⟨b, o, none⟩) h⟩

/-- What crc.More answers. -/
def crcMore (c : Int) (s : ByteArray) : Int := Go.bits .xor .u32 (crcFold (Go.bits .xor .u32 c 4294967295) s.data.toList) 4294967295
end Go.Proofs.YtolifmpjbmekdaaDoor
