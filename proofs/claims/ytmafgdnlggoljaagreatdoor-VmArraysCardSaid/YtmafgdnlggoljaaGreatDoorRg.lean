/- Printed by program: runs of the abstract machine, by the kernel. -/
import Derived.Test.YtmafgdnlggoljaaGreatDoorV2
namespace Go.Kx
open Go
theorem b0_run (n q x k s S g S' R : Int) (N I b : Nat) (L : List AV) (a : Nat → Int) : viewS (nmL 52 [(52, 0), (53, 0), (67, 0), (75, 0), (107, 0), (105, 0), (77, 0), (79, 0)]) (B1_L n q x k s S g S' R N I b L a) (B1_M n q x k s S g S' R N I b L a) (runS EV 4000 (KP 7 []) (B0_fr n q x k s S g S' R N I b L a) [] (mkH 52 (B0_L n q x k s S g S' R N I b L a) (B0_M n q x k s S g S' R N I b L a)) 742
    [(.stop, 100000)] []) = some ((KP 7 [1, 1, 1, 1, 1, 1, 1, 0, 1]), rens (nmL 52 [(52, 0), (53, 0), (67, 0), (75, 0), (107, 0), (105, 0), (77, 0), (79, 0)]) (B1_fr n q x k s S g S' R N I b L a), [], objs (nmL 52 [(52, 0), (53, 0), (67, 0), (75, 0), (107, 0), (105, 0), (77, 0), (79, 0)]) (B1_L n q x k s S g S' R N I b L a), maps (nmL 52 [(52, 0), (53, 0), (67, 0), (75, 0), (107, 0), (105, 0), (77, 0), (79, 0)]) (B1_M n q x k s S g S' R N I b L a), none, b0_ob n q x k s S g S' R N I b L a) := by kernel_rfl
end Go.Kx
namespace Go.Kx
open Go
theorem c0_run (n q x k s S g S' R : Int) (N I b : Nat) (L : List AV) (a : Nat → Int) : viewS (nmL 60 [(72, 0), (71, 0), (65, 0), (60, 0), (61, 0), (81, 0)]) (T1_L n q x k 1995 S g S' R N 0 8 (repl N [(.int .i64 0), .nil]) (ofL [1, 0, 1996, 1995, 1995, 4, 48, 4, 4, 4, 4, 5, 4, 4, 4, 0])) (T1_M n q x k 1995 S g S' R N 0 8 (repl N [(.int .i64 0), .nil]) (ofL [1, 0, 1996, 1995, 1995, 4, 48, 4, 4, 4, 4, 5, 4, 4, 4, 0])) (runS EV 4000 (KP 19 []) (C0_fr n q x k s S g S' R N I b L a) [] (mkH 60 (C0_L n q x k s S g S' R N I b L a) (C0_M n q x k s S g S' R N I b L a)) 111
    [(.chk, 227),
    (.val (.bool false), 7),
    (.val (.bool false), 7),
    (.val (.int .i64 (↑N + 1 : Int)), 0),
    (.val (.int .i64 (-↑N + 39 : Int)), 8),
    (.mk N, 489),
    (.stop, 100000)] []) = some ((KP 19 [1, 1, 1, 0, 0, 0, 0, 0, 0]), rens (nmL 60 [(72, 0), (71, 0), (65, 0), (60, 0), (61, 0), (81, 0)]) (T1_fr n q x k 1995 S g S' R N 0 8 (repl N [(.int .i64 0), .nil]) (ofL [1, 0, 1996, 1995, 1995, 4, 48, 4, 4, 4, 4, 5, 4, 4, 4, 0])), [], objsP (nmL 60 [(72, 0), (71, 0), (65, 0), (60, 0), (61, 0), (81, 0)]) (T1_L n q x k 1995 S g S' R N 0 8 (repl N [(.int .i64 0), .nil]) (ofL [1, 0, 1996, 1995, 1995, 4, 48, 4, 4, 4, 4, 5, 4, 4, 4, 0])), maps (nmL 60 [(72, 0), (71, 0), (65, 0), (60, 0), (61, 0), (81, 0)]) (T1_M n q x k 1995 S g S' R N 0 8 (repl N [(.int .i64 0), .nil]) (ofL [1, 0, 1996, 1995, 1995, 4, 48, 4, 4, 4, 4, 5, 4, 4, 4, 0])), none, c0_ob n q x k s S g S' R N I b L a) := by kernel_rfl
end Go.Kx
namespace Go.Kx
open Go
theorem c1_run (n q x k s S g S' R : Int) (N I b : Nat) (L : List AV) (a : Nat → Int) : viewS (nmL 60 [(60, 0), (61, 0), (62, 9), (63, 0), (64, 0), (113, 0)]) (T1_L n q x k (s - 13 : Int) S g S' R N (I + 1) 34 (splice L (0 + (Int.toNat (↑I : Int)) * 2) [(.int .i64 (↑I : Int)), .nil]) (ofL [1, 0, (s - 12 : Int), (s - 13 : Int), (s - 13 : Int), 17, 48, 17, 27, 5, 17, 18, 27, 27, 5, (↑I + 1 : Int)])) (T1_M n q x k (s - 13 : Int) S g S' R N (I + 1) 34 (splice L (0 + (Int.toNat (↑I : Int)) * 2) [(.int .i64 (↑I : Int)), .nil]) (ofL [1, 0, (s - 12 : Int), (s - 13 : Int), (s - 13 : Int), 17, 48, 17, 27, 5, 17, 18, 27, 27, 5, (↑I + 1 : Int)])) (runS EV 4000 (KP 19 [1, 1, 1, 0, 0, 0, 0, 0, 0]) (T1_fr n q x k s S g S' R N I b L a) [] (mkH 66 (T1_L n q x k s S g S' R N I b L a) (T1_M n q x k s S g S' R N I b L a)) 22
    [(.val (.int .i64 (s - 1 : Int)), 9),
    (.val (.bool false), 76),
    (.chk, 54),
    (.val (.int .i64 (s - 2 : Int)), 9),
    (.val (.bool false), 76),
    (.chk, 54),
    (.val (.int .i64 (s - 3 : Int)), 9),
    (.val (.bool false), 166),
    (.val (.bool true), 60),
    (.val (.int .i64 (s - 4 : Int)), 9),
    (.val (.bool false), 144),
    (.val (.int .i64 (s - 5 : Int)), 9),
    (.val (.bool false), 131),
    (.val (.int .i64 (s - 6 : Int)), 9),
    (.val (.bool false), 76),
    (.chk, 54),
    (.val (.int .i64 (s - 7 : Int)), 9),
    (.val (.bool false), 76),
    (.chk, 54),
    (.val (.int .i64 (s - 8 : Int)), 9),
    (.val (.bool false), 206),
    (.val (.bool false), 7),
    (.val (.bool false), 21),
    (.val (.ptr 61 0 (0 + (Int.toNat (↑I : Int)) * 2)), 0),
    (.st, 22),
    (.val (.int .i64 (s - 9 : Int)), 9),
    (.val (.bool false), 76),
    (.chk, 54),
    (.val (.int .i64 (s - 10 : Int)), 9),
    (.val (.bool false), 128),
    (.val (.int .i64 (s - 11 : Int)), 9),
    (.val (.bool false), 150),
    (.val (.int .i64 (↑I + 1 : Int)), 56),
    (.val (.int .i64 (s - 12 : Int)), 9),
    (.val (.bool false), 146),
    (.val (.int .i64 (s - 13 : Int)), 9),
    (.val (.bool false), 76),
    (.stop, 100000)] []) = some ((KP 19 [1, 1, 1, 0, 0, 0, 0, 0, 0]), rens (nmL 60 [(60, 0), (61, 0), (62, 9), (63, 0), (64, 0), (113, 0)]) (T1_fr n q x k (s - 13 : Int) S g S' R N (I + 1) 34 (splice L (0 + (Int.toNat (↑I : Int)) * 2) [(.int .i64 (↑I : Int)), .nil]) (ofL [1, 0, (s - 12 : Int), (s - 13 : Int), (s - 13 : Int), 17, 48, 17, 27, 5, 17, 18, 27, 27, 5, (↑I + 1 : Int)])), [], objsP (nmL 60 [(60, 0), (61, 0), (62, 9), (63, 0), (64, 0), (113, 0)]) (T1_L n q x k (s - 13 : Int) S g S' R N (I + 1) 34 (splice L (0 + (Int.toNat (↑I : Int)) * 2) [(.int .i64 (↑I : Int)), .nil]) (ofL [1, 0, (s - 12 : Int), (s - 13 : Int), (s - 13 : Int), 17, 48, 17, 27, 5, 17, 18, 27, 27, 5, (↑I + 1 : Int)])), maps (nmL 60 [(60, 0), (61, 0), (62, 9), (63, 0), (64, 0), (113, 0)]) (T1_M n q x k (s - 13 : Int) S g S' R N (I + 1) 34 (splice L (0 + (Int.toNat (↑I : Int)) * 2) [(.int .i64 (↑I : Int)), .nil]) (ofL [1, 0, (s - 12 : Int), (s - 13 : Int), (s - 13 : Int), 17, 48, 17, 27, 5, 17, 18, 27, 27, 5, (↑I + 1 : Int)])), none, c1_ob n q x k s S g S' R N I b L a) := by kernel_rfl
end Go.Kx
